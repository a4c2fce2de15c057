/- coset.Enumerate; The reference's Enumerate; The walk of RewriteKnown; The laws of chapter 18: long, vast, small, three, awake; Trace of both; plain; the reference's Images. -/
import Derived.Test.YtcfighimnkfmeaaCkCS12
import Derived.Test.YtcfighimnkfmeaaCkCS8
import Derived.Test.YtcfighimnkfmeaaCkCS7
import Derived.Test.YtcfighimnkfmeaaCkCS4
namespace Go.Proofs
open Go.RowKit Go.Shelf Go.Proofs.Ct Go.Maps
theorem resC_made (w : World) (x : Array Value) : ResC (w.heap.size + 1) ((((w.alloc (.cells x 40)).alloc (.cells #[.slice none 0 0] 23)).alloc (.cells #[.int .i64 0, .int .i64 0, .int .i64 0] 49)).alloc (.cells #[.int .i64 0] 28)) (.slice none 0 0) 0 0 0 0 := by
  constructor <;> simp [go_sem]
/-- the state that Enumerate lays -/
def made116 (w : World) (g lim : Nat) : World := w.alloc (.cells #[.int .i64 (2 * (g : Int)), .int .i64 (lim : Int), .slice none 0 0, .slice none 0 0, .slice none 0 0, .int .i64 0, .int .i64 0] 116)
theorem StP.made (w : World) (g lim : Nat) : StP w.heap.size w.heap.size (2 * g) lim (made116 w g lim) nilS := by
  refine ⟨Nat.le_refl _, [], .slice none 0 0, .slice none 0 0, .slice none 0 0, fun _ => 0, fun _ => 0, ⟨?_⟩, ⟨World.ownsRow_nil _ _ _ _, fun i hi => absurd hi (Nat.not_lt_zero _), fun i j hi => absurd hi (Nat.not_lt_zero _), World.ownsRow_nil _ _ _ _, World.ownsRow_nil _ _ _ _, fun i hi => absurd hi (Nat.not_lt_zero _), fun i hi => absurd hi (Nat.not_lt_zero _), (fun r hr => by cases hr), ⟨rfl, fun x hx => absurd hx (Nat.not_lt_zero _)⟩⟩⟩
  have := heap_alloc_new w (.cells #[.int .i64 (2 * (g : Int)), .int .i64 (lim : Int), .slice none 0 0, .slice none 0 0, .slice none 0 0, .int .i64 0, .int .i64 0] 116)
  have e : ((2 * g : Nat) : Int) = 2 * (g : Int) := by omega
  rw [e]
  exact this
theorem made116_below (w : World) (g lim : Nat) : Below w.heap.size w (made116 w g lim) := (Below.refl _ _).alloc (Nat.le_refl _) _
theorem made116_size (w : World) (g lim : Nat) : w.heap.size ≤ (made116 w g lim).heap.size := (made116_below w g lim).size
theorem Words.of {w : World} {v : Value} {l : List W} (h : Tab w v l) {w' : World} (hb : Below w.heap.size w w') : Words w.heap.size w' v l := ⟨w, rfl, h, hb⟩
theorem addr_ne {a b : Addr} (h : a.block ≠ b.block ∨ a.off ≠ b.off) : a ≠ b := fun e => by
  subst e
  rcases h with h | h <;> exact h rfl
theorem ResC.set2 {q : Nat} {w : World} {v : Value} {a b c e : Int} (h : ResC q w v a b c e) (v' : Value) (e' : Int) : ResC q ((w.setCell ⟨q, 0, none⟩ v').setCell ⟨q + 1 + 1, 0, none⟩ (.int .i64 e')) v' a b c e' := by
  obtain ⟨c0, c1, c2, c3, c4, f0, f1, f2, f3, f4⟩ := h
  refine ⟨(cell_set (cell_set c0 _) _).trans ?_, (cell_set (cell_set c1 _) _).trans ?_, (cell_set (cell_set c2 _) _).trans ?_, (cell_set (cell_set c3 _) _).trans ?_, (cell_set (cell_set c4 _) _).trans ?_, ?_, ?_, ?_, ?_, ?_⟩ <;> simp [f0, f1, f2, f3, f4]
theorem TabB.setCell {B : Nat} {w : World} {u : Value} {l : List (List Int)} (h : TabB B w u l) {p : Addr} (hp : p.block < B) (v : Value) : TabB B (w.setCell p v) u l :=
  h.keep (by simp [World.setCell]) fun k h1 _ => Below.heap_setCell w p v k (by omega)
theorem setR_tabB {B q : Nat} {w : World} {u : Value} {l : List (List Int)} (h : TabB B w u l) (h1 : q + 1 < B) (h2 : q + 1 + 1 < B) (v : Value) (a b c e : Int) : TabB B (setR q w v a b c e) u l :=
  ((((h.setCell (p := ⟨q, 0, none⟩) (by show q < B; omega) v).setCell (p := ⟨q + 1, 0, none⟩) h1 _).setCell (p := ⟨q + 1, 1, none⟩) h1 _).setCell (p := ⟨q + 1, 2, none⟩) h1 _).setCell (p := ⟨q + 1 + 1, 0, none⟩) h2 _
theorem StP.tops {base b m lim : Nat} {w : World} {s : St} (h : StP base b m lim w s) : ∃ A c, w.cell? ⟨b, 2, none⟩ = some (.slice A s.t.length c) ∧ w.cell? ⟨b, 6, none⟩ = some (.int .i64 s.most) := by
  obtain ⟨-, P, vr, vp, vq, bl, cs, hB, hC⟩ := h
  obtain ⟨A, c, rfl⟩ := owns_form hC.out
  exact ⟨A, c, hB.cells.2.2.1, hB.cells.2.2.2.2.2.2⟩
/-- what the last statement reads -/
abbrev S16 (q p : Nat) (u r m : Value) (W : World) : Prop := W.cell? ⟨q, 0, none⟩ = some u ∧ W.cell? ⟨p, 2, none⟩ = some r ∧ W.cell? ⟨p, 6, none⟩ = some m ∧ W.cell? ⟨q + 1 + 1, 0, none⟩ = some (.int .i64 0)
theorem S16.drew {q p : Nat} {u r m : Value} {W : World} (h : S16 q p u r m W) : S16 q p u r m W.drew := h
theorem S16.st0 {q p : Nat} {u r m : Value} {W : World} (h : S16 q p u r m W) : S16 q p u r m (W.setCell ⟨q, 0, none⟩ u) :=
  ⟨(cell_set h.1 _).trans (by simp), (cell_set h.2.1 _).trans (by simp), (cell_set h.2.2.1 _).trans (by simp), (cell_set h.2.2.2 _).trans (by simp)⟩
theorem S16.st1 {q p : Nat} {u r m : Value} {W : World} (h : S16 q p u r m W) (a b : Value) (hne : q + 1 ≠ p) : ∀ c : Value, S16 q p u r m (((W.setCell ⟨q + 1, 0, none⟩ a).setCell ⟨q + 1, 1, none⟩ b).setCell ⟨q + 1, 2, none⟩ c) := fun c =>
  ⟨(cell_set (cell_set (cell_set h.1 _) _) _).trans (by simp), (cell_set (cell_set (cell_set h.2.1 _) _) _).trans (by simp), (cell_set (cell_set (cell_set h.2.2.1 _) _) _).trans (by simp), (cell_set (cell_set (cell_set h.2.2.2 _) _) _).trans (by simp)⟩
theorem S16.st2 {q p : Nat} {u r m : Value} {W : World} (h : S16 q p u r m W) : S16 q p u r m (W.setCell ⟨q + 1 + 1, 0, none⟩ (.int .i64 0)) :=
  ⟨(cell_set h.1 _).trans (by simp), (cell_set h.2.1 _).trans (by simp), (cell_set h.2.2.1 _).trans (by simp), (cell_set h.2.2.2 _).trans (by simp)⟩
theorem sumTo_le {sub : List W} (h : ∀ j, (sub.getD j []).length ≤ 100000) : ∀ k, sumTo sub k ≤ k * 100000
  | 0 => Nat.zero_le _
  | k + 1 => by
    have := sumTo_le h k
    have := h k
    show sumTo sub k + (sub.getD k []).length ≤ (k + 1) * 100000
    omega
set_option maxRecDepth 100000 in
set_option maxHeartbeats 4000000 in
theorem enum32_any (w : World) (vr vs : Value) (g : Int) (rels sub : List W) (limit : Int) (hR : Tab w vr rels) (hS : Tab w vs sub) (hsm : ∀ j, (sub.getD j []).length ≤ 100000) (hsl : sub.length ≤ 1000000) : Calls Try.prog 32 #[.agg #[.int .i64 g, vr], vs, .int .i64 limit] w (EnumPost g rels sub limit w) := by
  obtain ⟨Ar, cr, rfl⟩ := Tab.form hR
  obtain ⟨As, cs, rfl⟩ := Tab.form hS
  have H78 : Hid (∀ W, Tab W (.slice Ar rels.length cr) rels → Calls Try.prog 78 #[.agg #[.int .i64 g, .slice Ar rels.length cr]] W fun e w' => (∃ y, e = .returned (.tuple #[.int .i64 (presE g rels), .int .i64 y])) ∧ Below W.heap.size W w') := Lib.hid fun W h => pcheck78_any W _ _ rels h
  have hmf : ∀ (fn : Fn) (first cap : Array Value) (w : World), (Instr.makeFunc fn first cap).run Try.prog w = .ok (.func fn first cap) w := fun _ _ _ _ => rfl
  have HPB : Hid (∀ w0 : World, w0 = (((w.alloc (.cells #[.int .i64 g, .slice Ar rels.length cr] 40)).alloc (.cells #[.slice none 0 0] 23)).alloc (.cells #[.int .i64 0, .int .i64 0, .int .i64 0] 49)).alloc (.cells #[.int .i64 0] 28) → Below w.heap.size w w0 ∧ w0.heap.size = w.heap.size + 4 ∧ w0.heap[w.heap.size]? = some (.cells #[.int .i64 g, .slice Ar rels.length cr] 40 (0, 0)) ∧ ResC (w.heap.size + 1) w0 (.slice none 0 0) 0 0 0 0) := Lib.hid fun w0 h => by
    subst h
    refine ⟨((((Below.refl _ _).alloc (Nat.le_refl _) _).alloc (by simp) _).alloc (by simp; omega) _).alloc (by simp; omega) _, by simp, ?_, resC_made w _⟩
    have h0 := heap_alloc_new w (.cells #[.int .i64 g, .slice Ar rels.length cr] 40)
    have hb : Below (w.heap.size + 1) (w.alloc (.cells #[.int .i64 g, .slice Ar rels.length cr] 40)) ((((w.alloc (.cells #[.int .i64 g, .slice Ar rels.length cr] 40)).alloc (.cells #[.slice none 0 0] 23)).alloc (.cells #[.int .i64 0, .int .i64 0, .int .i64 0] 49)).alloc (.cells #[.int .i64 0] 28)) := (((Below.refl _ _).alloc (by simp) _).alloc (by simp) _).alloc (by simp) _
    exact (hb.block _ (by omega)).trans h0
  have HRR := Lib.hid hR
  have HSS := Lib.hid hS
  clear hR hS
  go_enter_defers Try.func32, Try.ntmps32
  go_wp2_with fail
  generalize hw0 : (((w.alloc (.cells #[.int .i64 g, .slice Ar rels.length cr] 40)).alloc (.cells #[.slice none 0 0] 23)).alloc (.cells #[.int .i64 0, .int .i64 0, .int .i64 0] 49)).alloc (.cells #[.int .i64 0] 28) = w0 at *
  obtain ⟨hb0, hsz, hbp, hrc⟩ := HPB.out w0 rfl
  have HB0 := Lib.hid hb0
  have HSZ := Lib.hid hsz
  have HBX : Hid (∀ W, Below w0.heap.size w0 W → W.cell? ⟨w.heap.size, 0, none⟩ = some (.int .i64 g) ∧ W.cell? ⟨w.heap.size, 1, none⟩ = some (.slice Ar rels.length cr) ∧ ResC (w.heap.size + 1) W (.slice none 0 0) 0 0 0 0) := Lib.hid fun W h => by
    obtain ⟨a, b⟩ := cell_of2 ((h.block _ (Array.getElem?_eq_some_iff.1 hbp).1).trans hbp)
    exact ⟨a, b, hrc.below hrc.lt h⟩
  clear hw0 hb0 hsz hbp hrc HPB
  by_cases he : presE g rels = 0
  · have d1 : (presE g rels != 0) = false := by simp [he]
    have HE := Lib.hid he
    clear he
    generalize hxe : presE g rels = x at *
    have HXE := Lib.hid hxe
    clear hxe
    go_wp2_with (first
      | (go_at_call 78; (with_reducible refine (H78.out w0 (kept_tab.below HRR.out HB0.out)).mono ?_); rintro e w1 ⟨⟨y, rfl⟩, hb⟩
         have HB1 := Lib.hid hb
         clear hb))
    go_loopg [11, 26] sub.length (fun n l i wx => ∃ k : Nat, i = .int .i64 (k : Int) ∧ n = sub.length - k ∧ k ≤ sub.length ∧ l = .int .i64 ((sumTo sub k : Nat) : Int) ∧ w1 = wx)
    case atStart => exact ⟨0, rfl, by omega, Nat.zero_le _, rfl, rfl⟩
    case round =>
      obtain ⟨k, rfl, hgk, hk, rfl, rfl⟩ := hrel
      have HGK := Lib.hid hgk
      clear hgk
      have hk0 : (0 : Int) ≤ (k : Int) := Int.natCast_nonneg _
      have hsk := sumTo_le hsm k
      have hsk0 : (0 : Int) ≤ ((sumTo sub k : Nat) : Int) := Int.natCast_nonneg _
      have hsk1 : ((sumTo sub k : Nat) : Int) ≤ 100000000000 := by
        have : k * 100000 ≤ 1000000 * 100000 := Nat.mul_le_mul_right _ (by omega)
        omega
      clear hsk
      by_cases hlt : k < sub.length
      · have hltI : (k : Int) < (sub.length : Int) := by omega
        have hT := kept_tab.below HSS.out (HB0.out.trans (HB1.out.mono HB0.out.size))
        obtain ⟨bs, os, rfl, hcell⟩ := hT.cells (by omega)
        obtain ⟨u, hu, hI⟩ := hcell k hlt
        obtain ⟨Au, cu, rfl, hu1, hu2, -⟩ := hI.open_
        have hlu := hsm k
        have HSU : Hid (sumTo sub (k + 1) = sumTo sub k + (sub.getD k []).length) := Lib.hid rfl
        generalize hgl : (sub.getD k []).length = L at *
        have hl0 : (0 : Int) ≤ (L : Int) := Int.natCast_nonneg _
        have hl1 : (L : Int) ≤ 100000 := by omega
        clear hT hcell hI hu1 hu2 hlu hgl
        go_wp2_with fail
        go_roundg (sub.length - (k + 1))
        case measure => have := HGK.out; omega
        case rel => exact ⟨k + 1, by go_num, rfl, by omega, by rw [HSU.out]; go_num, rfl⟩
      · obtain rfl : k = sub.length := by omega
        clear hlt
        obtain ⟨gn, rfl, hg1, hg16, hrl, hrg⟩ := presE_good (HXE.out.trans HE.out)
        have hpz : presE (gn : Int) rels = 0 := HXE.out.trans HE.out
        have HPZ := Lib.hid hpz
        obtain ⟨-, -, hrc⟩ := HBX.out _ HB1.out
        have HRC := Lib.hid hrc
        have HRG := Lib.hid hrg
        have hcg := (HBX.out _ HB1.out).1
        have hcr := (HBX.out _ HB1.out).2.1
        obtain ⟨c0, c1, c2, c3, c4, f0, f1, f2, f3, f4⟩ := hrc
        have HW1 := Lib.hid (HB0.out.trans (HB1.out.mono HB0.out.size))
        clear hrg hpz
        have H81 : Hid (Calls Try.prog 81 #[.slice As sub.length cs, .func (.func 82) #[] #[.pointer (some ⟨w.heap.size, 0, none⟩)]] w1 fun e w' => e = .returned (.bool (sub.any fun w => w.any (letBad gn))) ∧ Below w1.heap.size w1 w') := Lib.hid (
          has81_any 82 _ (fun w => w.any (letBad gn)) w1 eg82 _ sub (kept_tab.below HSS.out HW1.out) fun W' u k hb hk hI => neg82_any W' w.heap.size gn u _ hg16 ((hb.cell (p := ⟨w.heap.size, 0, none⟩) (World.block_lt_of_cell? _ _ hcg)).trans hcg) hI)
        have HBAD : Hid (badArgs gn sub limit = true → enumE (gn : Int) rels sub limit = ([], (0, 0), 2)) := Lib.hid fun h => enumE_bad HPZ.out h
        by_cases h1 : (100 : Int) < (sub.length : Int)
        · have HBA : Hid (enumE (gn : Int) rels sub limit = ([], (0, 0), 2)) := Lib.hid (HBAD.out (by unfold badArgs; simp; omega))
          clear HBAD
          have HRC2 := Lib.hid (HRC.out.set (.slice none 0 0) 0 0 0 2)
          go_wp2_with fail
          refine leave32 (q := w.heap.size + 1) HRC2.out _ rfl rfl rfl ?_
          exact EnumPost.err HBA.out (setR_below HW1.out (by omega) _ _ _ _ _)
        · by_cases h2 : (4000 : Int) < ((sumTo sub sub.length : Nat) : Int)
          · have HBA : Hid (enumE (gn : Int) rels sub limit = ([], (0, 0), 2)) := Lib.hid (HBAD.out (by unfold badArgs; simp; omega))
            clear HBAD
            have HRC2 := Lib.hid (HRC.out.set (.slice none 0 0) 0 0 0 2)
            go_wp2_with fail
            refine leave32 (q := w.heap.size + 1) HRC2.out _ rfl rfl rfl ?_
            exact EnumPost.err HBA.out (setR_below HW1.out (by omega) _ _ _ _ _)
          · cases h3 : (sub.any fun w => w.any (letBad gn)) with
            | true =>
              have HBA : Hid (enumE (gn : Int) rels sub limit = ([], (0, 0), 2)) := Lib.hid (HBAD.out (by unfold badArgs; rw [h3]; simp))
              clear HBAD
              rw [h3] at H81
              clear h3
              go_wp2_with (first
                | (go_at_call 81; (with_reducible refine H81.out.mono ?_); rintro e w2 ⟨rfl, hb⟩
                   have HB2 := Lib.hid (HB1.out.trans (hb.mono HB1.out.size))
                   have HW2 := Lib.hid (HW1.out.trans (hb.mono HW1.out.size))
                   obtain ⟨-, -, hrc⟩ := HBX.out _ HB2.out
                   clear c0 c1 c2 c3 c4 f0 f1 f2 f3 f4
                   have HRC2 := Lib.hid (hrc.set (.slice none 0 0) 0 0 0 2)
                   obtain ⟨c0, c1, c2, c3, c4, f0, f1, f2, f3, f4⟩ := hrc
                   clear hb))
              refine leave32 (q := w.heap.size + 1) HRC2.out _ rfl rfl rfl ?_
              exact EnumPost.err HBA.out (setR_below HW2.out (by omega) _ _ _ _ _)
            | false =>
              by_cases h4 : limit < 1 ∨ 20000 < limit
              · have HBA : Hid (enumE (gn : Int) rels sub limit = ([], (0, 0), 2)) := Lib.hid (HBAD.out (by unfold badArgs; simp; omega))
                clear HBAD
                rw [h3] at H81
                clear h3
                rcases h4 with h4 | h4
                all_goals
                  go_wp2_with (first
                    | (go_at_call 81; (with_reducible refine H81.out.mono ?_); rintro e w2 ⟨rfl, hb⟩
                       have HB2 := Lib.hid (HB1.out.trans (hb.mono HB1.out.size))
                       have HW2 := Lib.hid (HW1.out.trans (hb.mono HW1.out.size))
                       obtain ⟨-, -, hrc⟩ := HBX.out _ HB2.out
                       clear c0 c1 c2 c3 c4 f0 f1 f2 f3 f4
                       have HRC2 := Lib.hid (hrc.set (.slice none 0 0) 0 0 0 2)
                       obtain ⟨c0, c1, c2, c3, c4, f0, f1, f2, f3, f4⟩ := hrc
                       clear hb))
                  refine leave32 (q := w.heap.size + 1) HRC2.out _ rfl rfl rfl ?_
                  exact EnumPost.err HBA.out (setR_below HW2.out (by omega) _ _ _ _ _)
              · have h4a : 1 ≤ limit := by omega
                have h4b : limit ≤ 20000 := by omega
                have HOK : Hid (badArgs gn sub limit = false) := Lib.hid (by unfold badArgs; rw [h3]; simp; omega)
                have HSG := Lib.hid (subs_good h3)
                rw [h3] at H81
                obtain ⟨lim, rfl⟩ : ∃ lim : Nat, limit = (lim : Int) := ⟨limit.toNat, by omega⟩
                have HRUN : Hid (∀ w2, Below w0.heap.size w0 w2 → Below w.heap.size w w2 → Calls Try.prog 85 #[.pointer (some ⟨w2.heap.size, 0, none⟩), .slice Ar rels.length cr, .slice As sub.length cs] (made116 w2 gn lim) fun e w' => ((∃ s', runS (2 * gn) lim rels sub = some s' ∧ e = .returned (.tuple #[]) ∧ StP w2.heap.size w2.heap.size (2 * gn) lim w' s') ∨ (runS (2 * gn) lim rels sub = none ∧ e = .panicked fullP)) ∧ Below w2.heap.size (made116 w2 gn lim) w') := Lib.hid fun w2 hb0 hb => by
                  refine run85_any gn (2 * gn) w2.heap.size w2.heap.size lim rfl hg16 (made116 w2 gn lim) _ _ rels sub (StP.made w2 gn lim) (made116_size w2 gn lim) (by omega) (by omega) (Words.of (kept_tab.below HRR.out hb) (made116_below w2 gn lim)) (Words.of (kept_tab.below HSS.out hb) (made116_below w2 gn lim)) (getD_all (fun j hj => (HRG.out j hj).1) LOk.nil) (getD_all (fun j hj => HSG.out j hj) LOk.nil)
                clear h3 HBAD h4
                cases hrun : runS (2 * gn) lim rels sub with
                | none =>
                  have HEN := Lib.hid (enumE_full HPZ.out HOK.out hrun)
                  rw [hrun] at HRUN
                  clear hrun
                  go_wp2_with (first
                    | (go_at_call 81; (with_reducible refine H81.out.mono ?_); rintro e w2 ⟨rfl, hb⟩
                       have HB2 := Lib.hid (HB1.out.trans (hb.mono HB1.out.size))
                       have HW2 := Lib.hid (HW1.out.trans (hb.mono HW1.out.size))
                       clear c0 c1 c2 c3 c4 f0 f1 f2 f3 f4 hcg hcr
                       obtain ⟨hcg, hcr, -⟩ := HBX.out _ HB2.out
                       have hcr2 : (w2.alloc (.cells #[.int .i64 (2 * (gn : Int)), .int .i64 (lim : Int), .slice none 0 0, .slice none 0 0, .slice none 0 0, .int .i64 0, .int .i64 0] 116)).cell? ⟨w.heap.size, 1, none⟩ = some (.slice Ar rels.length cr) := (HBX.out _ (HB2.out.trans ((made116_below w2 gn lim).mono HB2.out.size))).2.1
                       clear hb)
                    | (go_at_call 85; (refine ((HRUN.out w2 HB2.out HW2.out).mono (R' := fun e w' => e = .panicked fullP ∧ Below w2.heap.size (made116 w2 gn lim) w') fun e w' ⟨h, hb⟩ => ⟨by
                         rcases h with ⟨s', h, -⟩ | ⟨-, h⟩
                         · cases h
                         · exact h, hb⟩).mono ?_); rintro e w3 ⟨rfl, hb⟩
                       have HB3 := Lib.hid (HB2.out.trans (((made116_below w2 gn lim).trans hb).mono HB2.out.size))
                       have HW3 := Lib.hid (HW2.out.trans (((made116_below w2 gn lim).trans hb).mono HW2.out.size))
                       clear hb))
                  have hrc3 := (HBX.out _ HB3.out).2.2
                  refine leaves_cons (f := 84) (args := #[.pointer (some ⟨w.heap.size + 1, 0, none⟩), .pointer (some ⟨w.heap.size + 1 + 1, 0, none⟩), .pointer (some ⟨w.heap.size + 1 + 1 + 1, 0, none⟩)]) (by simp) (by simp [go_sem]) ?_
                  refine (catch84_full (w.heap.size + 1) w.heap.size w3 _ _ _ _ _ (by omega) hrc3).mono ?_
                  rintro e u' w4 ⟨rfl, rfl, hrc4, hb4⟩
                  exact leave32 hrc4 _ rfl rfl rfl (EnumPost.err HEN.out (HW3.out.trans hb4))
                | some s' =>
                  have HEN := Lib.hid (enumE_some HPZ.out HOK.out hrun)
                  have hgc := run_good (lim := lim) (g := gn) (by omega) (fun j hj => (HRG.out j hj).1) (fun j hj => HSG.out j hj) hrun
                  have hts := tab_std hg1 hg16 (by omega) hgc.1 hgc.2
                  have HTS : Hid ((stdE gn (tabS s') 0).2 = 0) := Lib.hid (by rw [hts.2])
                  have HTG := Lib.hid hts.1
                  have HGC := Lib.hid hgc
                  have H86 : Hid (∀ W b, StP b b (2 * gn) lim W s' → Calls Try.prog 86 #[.pointer (some ⟨b, 0, none⟩)] W fun e w' => ∃ u, e = .returned u ∧ Tab w' u (tabS s') ∧ Below W.heap.size W w') := Lib.hid fun W b h => table86_any gn (2 * gn) b b lim rfl hg16 hg1 W s' h HGC.out.1 HGC.out.2 (by omega)
                  have H48 : Hid (∀ W u, Tab W u (tabS s') → Calls Try.prog 48 #[.int .i64 (gn : Int), u, .int .i64 0] W fun e w' => (∃ u, e = .returned (.tuple #[u, .int .i64 0]) ∧ TabB W.heap.size w' u (stdE gn (tabS s') 0).1) ∧ Below W.heap.size W w') := Lib.hid fun W u h => (std48_goodB W u gn (tabS s') 0 h HTG.out (Int.le_refl _) (by have := HTG.out.n1; omega)).mono fun e w' ⟨⟨u, h1, h2⟩, h3⟩ => ⟨⟨u, by rw [h1, HTS.out], h2⟩, h3⟩
                  rw [hrun] at HRUN
                  clear hrun hgc hts
                  go_wp2_with (first
                    | (go_at_call 81; (with_reducible refine H81.out.mono ?_); rintro e w2 ⟨rfl, hb⟩
                       have HB2 := Lib.hid (HB1.out.trans (hb.mono HB1.out.size))
                       have HW2 := Lib.hid (HW1.out.trans (hb.mono HW1.out.size))
                       clear c0 c1 c2 c3 c4 f0 f1 f2 f3 f4 hcg hcr
                       obtain ⟨hcg, hcr, -⟩ := HBX.out _ HB2.out
                       have hcr2 : (w2.alloc (.cells #[.int .i64 (2 * (gn : Int)), .int .i64 (lim : Int), .slice none 0 0, .slice none 0 0, .slice none 0 0, .int .i64 0, .int .i64 0] 116)).cell? ⟨w.heap.size, 1, none⟩ = some (.slice Ar rels.length cr) := (HBX.out _ (HB2.out.trans ((made116_below w2 gn lim).mono HB2.out.size))).2.1
                       clear hb)
                    | (go_at_call 85; (refine ((HRUN.out w2 HB2.out HW2.out).mono (R' := fun e w' => e = .returned (.tuple #[]) ∧ StP w2.heap.size w2.heap.size (2 * gn) lim w' s' ∧ Below w2.heap.size (made116 w2 gn lim) w') fun e w' ⟨h, hb⟩ => by
                         rcases h with ⟨s'', h1, h2, h3⟩ | ⟨h, -⟩
                         · cases h1; exact ⟨h2, h3, hb⟩
                         · cases h).mono ?_); rintro e w3 ⟨rfl, hs3, hb⟩
                       have HB3 := Lib.hid (HB2.out.trans (((made116_below w2 gn lim).trans hb).mono HB2.out.size))
                       have HW3 := Lib.hid (HW2.out.trans (((made116_below w2 gn lim).trans hb).mono HW2.out.size))
                       have HS3 := Lib.hid hs3
                       clear hb hs3))
                  clear hcr2 hcg hcr
                  have HSX : Hid (∀ W, Below w3.heap.size w3 W → StP w2.heap.size w2.heap.size (2 * gn) lim W s') := Lib.hid fun W h => HS3.out.below h
                  have hcg := (HBX.out _ HB3.out).1
                  generalize hQ : w.heap.size = Q at *
                  generalize hQ2 : w2.heap.size = Q2 at *
                  have HQ := Lib.hid hQ
                  have HQ2 := Lib.hid hQ2
                  clear hQ hQ2
                  go_region_held3 (fun w' => w'.cell? ⟨Q, 0, none⟩ = some (.int .i64 (gn : Int))) (first | go_keep | (rw [World.cell?_setCell_other _ _ _ _ (by intro h; injection h with h; omega), World.cell?_setCell_other _ _ _ _ (by intro h; injection h with h; omega)]; assumption))
                    (first
                      | (go_at_call 86; (refine (H86.out _ _ (HSX.out _ (Below.refl _ w3).drew)).mono ?_); rintro e w4 ⟨u, rfl, ht4, hb⟩
                         have hb4 : Below w3.heap.size w3 w4 := (Below.refl _ w3).drew.trans hb
                         have HB4 := Lib.hid hb4
                         have HT4 := Lib.hid ht4
                         have hcg4 := (HBX.out _ (HB3.out.trans (hb4.mono HB3.out.size))).1
                         obtain ⟨A4, n4, rfl⟩ := Tab.form ht4
                         clear hb hb4 ht4)
                      | (go_at_call 48; (refine (H48.out _ _ HT4.out).mono ?_); rintro e w5 ⟨⟨u5, rfl, ht5⟩, hb⟩
                         have hb5 : Below w3.heap.size w3 w5 := HB4.out.trans (hb.mono HB4.out.size)
                         have HB5 := Lib.hid hb5
                         have HT5 := Lib.hid ht5
                         obtain ⟨hcg5, -, hrc5⟩ := HBX.out _ (HB3.out.trans (hb5.mono HB3.out.size))
                         have HRC5 := Lib.hid hrc5
                         obtain ⟨c0, c1, c2, c3, c4, f0, f1, f2, f3, f4⟩ := hrc5
                         obtain ⟨A5, n5, rfl⟩ := Tab.form ht5.at_
                         clear hb hb5 ht5))
                  obtain ⟨Ag, cg, r2, r6⟩ := (HSX.out _ HB5.out).tops
                  have hq4 : Q + 1 + 1 + 1 < w4.heap.size := by
                    have h1 := HRC5.out.lt
                    have h2 := HB4.out.size
                    have h3 := HB3.out.size
                    have h4 := HSZ.out
                    omega
                  have hQw : Q ≤ w3.heap.size := by have := HW3.out.size; have := HQ.out; omega
                  have HT6 := Lib.hid ((HT5.out.setCell (p := ⟨Q + 1, 0, none⟩) (by show Q + 1 < _; omega) (.slice A5 (stdE gn (tabS s') 0).1.length n5)).setCell (p := ⟨Q + 1 + 1 + 1, 0, none⟩) hq4 (.int .i64 0))
                  have hrc6 := HRC5.out.set2 (.slice A5 (stdE gn (tabS s') 0).1.length n5) 0
                  have HW6 : Hid (Below Q w ((w5.setCell ⟨Q + 1, 0, none⟩ (.slice A5 (stdE gn (tabS s') 0).1.length n5)).setCell ⟨Q + 1 + 1 + 1, 0, none⟩ (.int .i64 0))) := Lib.hid (((HW3.out.trans (HB5.out.mono hQw)).setCell (p := ⟨Q + 1, 0, none⟩) (by show Q ≤ Q + 1; omega) _).setCell (p := ⟨Q + 1 + 1 + 1, 0, none⟩) (by show Q ≤ Q + 1 + 1 + 1; omega) _)
                  have s2 : ((w5.setCell ⟨Q + 1, 0, none⟩ (.slice A5 (stdE gn (tabS s') 0).1.length n5)).setCell ⟨Q + 1 + 1 + 1, 0, none⟩ (.int .i64 0)).cell? ⟨Q2, 2, none⟩ = some (.slice Ag s'.t.length cg) := by
                    rw [World.cell?_setCell_other _ _ _ _ (addr_ne (.inr (by simp))), World.cell?_setCell_other _ _ _ _ (addr_ne (.inr (by simp)))]; exact r2
                  have s6 : ((w5.setCell ⟨Q + 1, 0, none⟩ (.slice A5 (stdE gn (tabS s') 0).1.length n5)).setCell ⟨Q + 1 + 1 + 1, 0, none⟩ (.int .i64 0)).cell? ⟨Q2, 6, none⟩ = some (.int .i64 s'.most) := by
                    rw [World.cell?_setCell_other _ _ _ _ (addr_ne (.inr (by simp))), World.cell?_setCell_other _ _ _ _ (addr_ne (.inr (by simp)))]; exact r6
                  generalize (w5.setCell ⟨Q + 1, 0, none⟩ (.slice A5 (stdE gn (tabS s') 0).1.length n5)).setCell ⟨Q + 1 + 1 + 1, 0, none⟩ (.int .i64 0) = W6 at *
                  have HRC6 := Lib.hid hrc6
                  have HRC7 := Lib.hid (hrc6.set (.slice A5 (stdE gn (tabS s') 0).1.length n5) s'.t.length s'.most 0 0)
                  clear c0 c1 c2 c3 c4 f0 f1 f2 f3 f4 r2 r6 hcg hcg4 hcg5
                  obtain ⟨c0, c1, c2, c3, c4, f0, f1, f2, f3, f4⟩ := hrc6
                  have hl0 : (0 : Int) ≤ (s'.t.length : Int) := Int.natCast_nonneg _
                  have HNQ : Hid (Q + 1 + 1 ≠ Q2) := Lib.hid (by
                    have h1 := HB2.out.size
                    have h4 := HSZ.out
                    have h5 := HQ2.out
                    omega)
                  have HS0 : Hid (S16 (Q + 1) Q2 (.slice A5 (stdE gn (tabS s') 0).1.length n5) (.slice Ag s'.t.length cg) (.int .i64 s'.most) W6) := Lib.hid ⟨c0, s2, s6, c4⟩
                  go_wp2_with fail
                  go_region_held3 (fun w' => w'.cell? ⟨Q + 1, 0, none⟩ = some (.slice A5 (stdE gn (tabS s') 0).1.length n5) ∧ w'.cell? ⟨Q2, 2, none⟩ = some (.slice Ag s'.t.length cg) ∧ w'.cell? ⟨Q2, 6, none⟩ = some (.int .i64 s'.most) ∧ w'.cell? ⟨Q + 1 + 1 + 1, 0, none⟩ = some (.int .i64 0))
                    (first | with_reducible exact HS0.out.drew | with_reducible exact HS0.out.st0.drew | with_reducible exact (HS0.out.st0.st1 _ _ HNQ.out _).drew | with_reducible exact (HS0.out.st0.st1 _ _ HNQ.out _).st2.drew)
                    (fail)
                  go_wp2_with fail
                  refine leaves_cons (f := 84) (args := #[.pointer (some ⟨Q + 1, 0, none⟩), .pointer (some ⟨Q + 1 + 1, 0, none⟩), .pointer (some ⟨Q + 1 + 1 + 1, 0, none⟩)]) (by simp) (by simp [go_sem]) ?_
                  refine (catch84_idle _ _ _ _).mono ?_
                  rintro e u' w9 ⟨rfl, rfl, hb9⟩
                  have hb8 : Below (setR (Q + 1) W6 (.slice A5 (stdE gn (tabS s') 0).1.length n5) s'.t.length s'.most 0 0).heap.size (setR (Q + 1) W6 (.slice A5 (stdE gn (tabS s') 0).1.length n5) s'.t.length s'.most 0 0) w9 := (Below.refl _ _).drew.trans hb9
                  have hrc9 : ResC (Q + 1) w9 (.slice A5 (stdE gn (tabS s') 0).1.length n5) s'.t.length s'.most 0 0 := HRC7.out.below HRC7.out.lt hb8
                  refine leave32 hrc9 _ rfl rfl rfl ?_
                  unfold EnumPost
                  rw [HEN.out]
                  have hT7 := setR_tabB HT6.out (by omega) hq4 (.slice A5 (stdE gn (tabS s') 0).1.length n5) s'.t.length s'.most 0 0
                  refine ⟨⟨_, rfl, kept_tab.below hT7.at_ hb8⟩, ?_⟩
                  have hb7 := setR_below HW6.out (q := Q + 1) (by omega) (.slice A5 (stdE gn (tabS s') 0).1.length n5) s'.t.length s'.most 0 0
                  rw [HQ.out]
                  exact hb7.trans (hb8.mono (by have := hb7.size; have := HQ.out; omega))
  · have d1 : (presE g rels != 0) = true := by simpa using he
    have HE : Hid (enumE g rels sub limit = ([], (0, 0), presE g rels)) := Lib.hid (enumE_pres he)
    generalize presE g rels = x at *
    clear he
    go_wp2_with (first
      | (go_at_call 78; (with_reducible refine (H78.out w0 (kept_tab.below HRR.out HB0.out)).mono ?_); rintro e w1 ⟨⟨y, rfl⟩, hb⟩
         have HB1 := Lib.hid hb
         obtain ⟨-, -, hrc⟩ := HBX.out _ hb
         have HRC := Lib.hid (hrc.set (.slice none 0 0) 0 0 0 x)
         obtain ⟨c0, c1, c2, c3, c4, f0, f1, f2, f3, f4⟩ := hrc
         clear hb))
    refine leave32 (q := w.heap.size + 1) HRC.out _ rfl rfl rfl ?_
    exact EnumPost.err HE.out (setR_below (HB0.out.trans (HB1.out.mono HB0.out.size)) (by omega) _ _ _ _ _)
end Go.Proofs
namespace Go.Proofs
open Go.RowKit Go.Shelf Go.Proofs.Ct Go.Maps
/-- the cells of the numbers -/
structure NumC (q : Nat) (w : World) (a b c : Int) : Prop where
  c1 : w.cell? ⟨q, 0, none⟩ = some (.int .i64 a)
  c2 : w.cell? ⟨q, 1, none⟩ = some (.int .i64 b)
  c3 : w.cell? ⟨q, 2, none⟩ = some (.int .i64 c)
  f1 : w.frozen? ⟨q, 0, none⟩ = false
  f2 : w.frozen? ⟨q, 1, none⟩ = false
  f3 : w.frozen? ⟨q, 2, none⟩ = false
theorem NumC.lt {q : Nat} {w : World} {a b c : Int} (h : NumC q w a b c) : q < w.heap.size := World.block_lt_of_cell? w _ h.c1
theorem NumC.below {q : Nat} {w w' : World} {a b c : Int} (h : NumC q w a b c) {B : Nat} (hq : q < B) (hb : Below B w w') : NumC q w' a b c :=
  ⟨(hb.cell (p := ⟨q, 0, none⟩) hq).trans h.c1, (hb.cell (p := ⟨q, 1, none⟩) hq).trans h.c2, (hb.cell (p := ⟨q, 2, none⟩) hq).trans h.c3, (hb.frozen (p := ⟨q, 0, none⟩) hq).trans h.f1, (hb.frozen (p := ⟨q, 1, none⟩) hq).trans h.f2, (hb.frozen (p := ⟨q, 2, none⟩) hq).trans h.f3⟩
def setN (q : Nat) (w : World) (a b c : Int) : World := ((w.setCell ⟨q, 0, none⟩ (.int .i64 a)).setCell ⟨q, 1, none⟩ (.int .i64 b)).setCell ⟨q, 2, none⟩ (.int .i64 c)
theorem NumC.set {q : Nat} {w : World} {a b c : Int} (h : NumC q w a b c) (a' b' c' : Int) : NumC q (setN q w a' b' c') a' b' c' := by
  obtain ⟨c1, c2, c3, f1, f2, f3⟩ := h
  unfold setN
  refine ⟨(cell_set (cell_set (cell_set c1 _) _) _).trans ?_, (cell_set (cell_set (cell_set c2 _) _) _).trans ?_, (cell_set (cell_set (cell_set c3 _) _) _).trans ?_, ?_, ?_, ?_⟩ <;> simp [f1, f2, f3]
end Go.Proofs
namespace Go.Proofs
open Go.RowKit Go.Shelf Go.Proofs.Ct Go.Maps
def smallT : List (List Int) := [[1, 1], [2, 2, 2], [1, 2, 1, 2]]
theorem ints_blk {w : World} {b : Nat} {xs : List Int} (h : w.heap[b]? = some (.cells (ints xs).toArray 3 (0, 0))) (hf : Fits xs) {n : Nat} (hn : xs.length = n) (hm : n ≤ 1000) : IntsAt w (.slice (some ⟨b, 0, none⟩) n n) xs := by
  subst hn
  have hl : xs.length ≤ 9223372036854775807 := by omega
  refine ⟨⟨_, xs.length, xs.length, rfl, by simp [ints], Nat.le_refl _, by simpa [maxLen] using hl, fun _ => ⟨b, 0, rfl, fun j u hu => ?_⟩⟩, hf⟩
  rw [cell_of_row _ _ _ _ _ _ h, Nat.zero_add]
  simpa using hu
/-- rows in a block -/
theorem tab_blk {w : World} {b : Nat} {us : List Value} {xs : List (List Int)} {e : TypeId} (hb : w.heap[b]? = some (.cells us.toArray e (0, 0))) {n : Nat} (hn : us.length = n) (hl : us.length = xs.length) (hm : us.length ≤ 1000) (h : ∀ i, i < xs.length → IntsAt w (us.getD i undef) (xs.getD i [])) :
    Tab w (.slice (some ⟨b, 0, none⟩) n n) xs := by
  subst hn
  have hl9 : us.length ≤ 9223372036854775807 := by omega
  refine ⟨us, ⟨_, us.length, us.length, rfl, rfl, Nat.le_refl _, by simpa [maxLen] using hl9, fun _ => ⟨b, 0, rfl, fun j u hu => ?_⟩⟩, hl, fun i hi => ?_⟩
  · rw [cell_of_row _ _ _ _ _ _ hb, Nat.zero_add]
    simpa using hu
  · have hi' : i < us.length := by omega
    refine ⟨us.getD i undef, ?_, h i hi⟩
    simp [List.getD_eq_getElem?_getD, hi']
theorem fits_lit {xs : List Int} (h : (xs.all fun x => decide (-1000 ≤ x) && decide (x ≤ 1000)) = true) : Fits xs := fun x hx => by
  have := List.all_eq_true.1 h x hx
  simp at this
  omega
theorem build40s (g : Int) (A : Option Addr) (n c : Nat) (w : World) : (Instr.build 40 #[(0, .int .i64 g), (1, .slice A n c)]).run Try.prog w = .ok (.agg #[.int .i64 g, .slice A n c]) w := by kernel_rfl
section
variable {o : Oper} {a : Act} {w w' : World} {n : Nat} {v : Value}
theorem r_build40s (x y : Operand) (g : Int) (A : Option Addr) (m c : Nat) (ho : o.op = .build 40 #[(0, x), (1, y)]) (hx : a.eval x = .int .i64 g) (hy : a.eval y = .slice A m c) : (execOp a.eval o).run Try.prog w = .ok (.value (.agg #[.int .i64 g, .slice A m c])) w := by
  have hb := build40s g A m c w
  unfold execOp
  simp only [ho, List.map_toArray, List.map_cons, List.map_nil, hx, hy, Sem.run_bind, hb, Result.andThen_ok]
  rfl
end
theorem results_40 {fn : Func} {p : Tmp} (h : fn.results = #[.cell p 40]) (tmps : Array Value) (w : World) (g : Nat) (cs : Array Value)
    (hp : tmps.getD p undef = .pointer (some ⟨g, 0, none⟩)) (hg : w.heap[g]? = some (.cells cs 40 (0, 0))) (hs : cs.size = 2) :
    (results fn tmps).run Try.prog w = .ok (.agg cs) w := by
  have hp' : tmps[p]?.getD undef = .pointer (some ⟨g, 0, none⟩) := by simpa using hp
  simp [results, h, hp', asAddr, run_loadVar_row w g 40 40 cs (0, 0) _ hg Try.underlying40 rfl (by rw [hs]; exact info40s)]
def PresAt (g : Int) (l : List (List Int)) (w : World) (e : Ending) (w' : World) : Prop := (∃ A c, e = .returned (.agg #[.int .i64 g, .slice A l.length c]) ∧ Tab w' (.slice A l.length c) l) ∧ Below w.heap.size w w'
/-- what a slot of the drawn region holds -/
inductive SP where
  | eq (v : Value) | ints (l : List Int) | tab (l : List (List Int)) | pres (g : Int) (l : List (List Int)) | any
def SP.holds : SP → Value → World → Prop
  | .eq u, v, _ => v = u
  | .ints l, v, w => IntsAt w v l
  | .tab l, v, w => ∃ A c, v = .slice A l.length c ∧ Tab w v l
  | .pres g l, v, w => ∃ A c, v = .agg #[.int .i64 g, .slice A l.length c] ∧ Tab w (.slice A l.length c) l
  | .any, _, _ => True
theorem SP.keep {s : SP} {v : Value} {w w' : World} (h : Below w.heap.size w w') : s.holds v w → s.holds v w' := by
  cases s with
  | eq u => exact id
  | ints l => exact fun k => k.below h
  | tab l => exact fun ⟨A, c, e, k⟩ => ⟨A, c, e, kept_tab.below k h⟩
  | pres g l => exact fun ⟨A, c, e, k⟩ => ⟨A, c, e, kept_tab.below k h⟩
  | any => exact id
section
variable {o : Oper} {a : Act} {w w' : World} {n : Nat} {v : Value}
end
end Go.Proofs
namespace Go.Proofs
open Go.RowKit Go.Shelf Go.Proofs.Ct Go.Maps
set_option maxRecDepth 100000 in
theorem small55_any (w : World) : Calls Try.prog 55 #[] w (PresAt 2 smallT w) := by
  have hg : ∀ i o, [Obj.cells zero40 40, .cells (ints [1, 1]).toArray 3, .cells (ints [2, 2, 2]).toArray 3, .cells (ints [1, 2, 1, 2]).toArray 3, .cells #[.slice (some ⟨w.heap.size + 1, 0, none⟩) 2 2, .slice (some ⟨w.heap.size + 1 + 1, 0, none⟩) 3 3, .slice (some ⟨w.heap.size + 1 + 1 + 1, 0, none⟩) 4 4] 25][i]? = some o →
      (((((w.alloc (.cells zero40 40)).alloc (.cells (ints [1, 1]).toArray 3)).alloc (.cells (ints [2, 2, 2]).toArray 3)).alloc (.cells (ints [1, 2, 1, 2]).toArray 3)).alloc (.cells #[.slice (some ⟨w.heap.size + 1, 0, none⟩) 2 2, .slice (some ⟨w.heap.size + 1 + 1, 0, none⟩) 3 3, .slice (some ⟨w.heap.size + 1 + 1 + 1, 0, none⟩) 4 4] 25)).heap[w.heap.size + i]? = some o := fun i o h => allocs_get _ w i o h
  have hb : Below w.heap.size w (((((w.alloc (.cells zero40 40)).alloc (.cells (ints [1, 1]).toArray 3)).alloc (.cells (ints [2, 2, 2]).toArray 3)).alloc (.cells (ints [1, 2, 1, 2]).toArray 3)).alloc (.cells #[.slice (some ⟨w.heap.size + 1, 0, none⟩) 2 2, .slice (some ⟨w.heap.size + 1 + 1, 0, none⟩) 3 3, .slice (some ⟨w.heap.size + 1 + 1 + 1, 0, none⟩) 4 4] 25)) :=
    allocs_below [Obj.cells zero40 40, .cells (ints [1, 1]).toArray 3, .cells (ints [2, 2, 2]).toArray 3, .cells (ints [1, 2, 1, 2]).toArray 3, .cells #[.slice (some ⟨w.heap.size + 1, 0, none⟩) 2 2, .slice (some ⟨w.heap.size + 1 + 1, 0, none⟩) 3 3, .slice (some ⟨w.heap.size + 1 + 1 + 1, 0, none⟩) 4 4] 25] w w.heap.size (Nat.le_refl _)
  have HG := Lib.hid hg
  have HB := Lib.hid hb
  have HX := Lib.hid (hg 0 _ rfl)
  clear hg hb
  go_enter Try.func55, Try.ntmps55
  go_wp2_with (first
    | ((with_reducible refine wpList_sel 0 ?_); refine wpList_val rfl (r_alloc40 rfl) ?_)
    | ((with_reducible refine wpList_sel 5 ?_); refine wpList_val rfl (r_build40s _ (.tmp 4) 2 _ _ _ rfl rfl rfl) ?_; refine wpList_skip rfl (r_store40 (.tmp 0) (.tmp 5) rfl w.heap.size zero40 _ rfl rfl HX.out rfl rfl (one40 _ _ _ _)) ?_))
  try simp only [Exit.inBlock, Exit.then]
  refine bodyPost_ret (results_40 (p := 0) rfl _ _ w.heap.size _ rfl (setRow_heap _ _ _ _ _ _ HX.out) rfl) rfl ⟨⟨_, _, rfl, ?_⟩, below_setRow HB.out (Nat.le_refl _) _⟩
  refine tab_blk ((setRow_other _ _ _ _ (by omega)).trans (HG.out 4 _ rfl)) rfl rfl (by simp) fun i hi => ?_
  have hi3 : i = 0 ∨ i = 1 ∨ i = 2 := by simp [smallT] at hi; omega
  rcases hi3 with rfl | rfl | rfl
  · exact ints_blk ((setRow_other _ _ _ _ (by omega)).trans (HG.out 1 _ rfl)) (fits_lit (by decide)) rfl (by omega)
  · exact ints_blk ((setRow_other _ _ _ _ (by omega)).trans (HG.out 2 _ rfl)) (fits_lit (by decide)) rfl (by omega)
  · exact ints_blk ((setRow_other _ _ _ _ (by omega)).trans (HG.out 3 _ rfl)) (fits_lit (by decide)) rfl (by omega)
def threeT : List (List Int) := [[0, 0, 1, 2], [2, 2, 2, 0], [1, 1, 0, 1]]
theorem three56_any (w : World) : Calls Try.prog 56 #[] w fun e w' => (∃ u, e = .returned u ∧ Tab w' u threeT) ∧ Below w.heap.size w w' := by
  have h1 := ints_lit w [0, 0, 1, 2] (by unfold Fits; decide) 4 rfl (by omega)
  have h2 := ints_lit (w.alloc (.cells (ints [0, 0, 1, 2]).toArray 3)) [2, 2, 2, 0] (by unfold Fits; decide) 4 rfl (by omega)
  have h3 := ints_lit ((w.alloc (.cells (ints [0, 0, 1, 2]).toArray 3)).alloc (.cells (ints [2, 2, 2, 0]).toArray 3)) [1, 1, 0, 1] (by unfold Fits; decide) 4 rfl (by omega)
  have h4 := tab_three _ _ _ _ _ _ _ (h1.below (((Below.refl _ _).alloc (Nat.le_refl _) _).alloc (by simp) _)) (h2.below ((Below.refl _ _).alloc (Nat.le_refl _) _)) h3 (e := 24)
  have hb : Below w.heap.size w ((((w.alloc (.cells (ints [0, 0, 1, 2]).toArray 3)).alloc (.cells (ints [2, 2, 2, 0]).toArray 3)).alloc (.cells (ints [1, 1, 0, 1]).toArray 3)).alloc (.cells #[.slice (some ⟨w.heap.size, 0, none⟩) 4 4, .slice (some ⟨w.heap.size + 1, 0, none⟩) 4 4, .slice (some ⟨w.heap.size + 1 + 1, 0, none⟩) 4 4] 24)) :=
    (((((Below.refl _ _).alloc (Nat.le_refl _) _).alloc (by simp) _).alloc (by simp; omega) _).alloc (by simp; omega) _)
  simp only [World.size_alloc] at h4
  have H4 := Lib.hid h4
  have HB := Lib.hid hb
  clear h1 h2 h3 h4 hb
  go_enter Try.func56, Try.ntmps56
  go_wp2_with fail
  go_ret
  exact ⟨⟨_, rfl, H4.out⟩, HB.out⟩
theorem wake_enum : enumE 2 smallT [[1]] 100 = (threeT, (3, 3), 0) := by decide +kernel
/-- a list of one word of one letter -/
theorem one_word (w : World) (x : Int) (hx : -1000 ≤ x ∧ x ≤ 1000) : Tab ((w.alloc (.cells #[.int .i64 x] 3)).alloc (.cells #[.slice (some ⟨w.heap.size, 0, none⟩) 1 1] 25)) (.slice (some ⟨w.heap.size + 1, 0, none⟩) 1 1) [[x]] := by
  have h1 := ints_lit w [x] (fun y hy => by simp at hy; omega) 1 rfl (by omega)
  have hb : Below (w.alloc (.cells #[.int .i64 x] 3)).heap.size (w.alloc (.cells #[.int .i64 x] 3)) ((w.alloc (.cells #[.int .i64 x] 3)).alloc (.cells #[.slice (some ⟨w.heap.size, 0, none⟩) 1 1] 25)) := (Below.refl _ _).alloc (Nat.le_refl _) _
  have h2 := heap_alloc_new (w.alloc (.cells #[.int .i64 x] 3)) (.cells #[.slice (some ⟨w.heap.size, 0, none⟩) 1 1] 25)
  rw [World.size_alloc] at h2
  exact tab_blk (us := [.slice (some ⟨w.heap.size, 0, none⟩) 1 1]) h2 rfl rfl (by simp) fun i hi => by
    have : i = 0 := by simpa using hi
    subst this
    exact IntsAt.below h1 hb
theorem one_word_below (w : World) (x : Int) : Below w.heap.size w ((w.alloc (.cells #[.int .i64 x] 3)).alloc (.cells #[.slice (some ⟨w.heap.size, 0, none⟩) 1 1] 25)) := ((Below.refl _ _).alloc (Nat.le_refl _) _).alloc (by simp) _
set_option maxRecDepth 100000 in
set_option maxHeartbeats 1000000 in
theorem awake31_any (w : World) : Calls Try.prog 31 #[] w fun e w' => e = .returned (.bool true) ∧ Below w.heap.size w w' := by
  have HE := Lib.hid (fun W vr vs (h1 : Tab W vr smallT) (h2 : Tab W vs [[1]]) => (enum32_any W vr vs 2 smallT [[1]] 100 h1 h2 (fun j => by
      rcases j with _ | j
      · simp
      · simp) (by simp)).mono fun e w' (⟨⟨u, h1, h2⟩, h3⟩ : EnumPost 2 smallT [[1]] 100 W e w') => by
    rw [wake_enum] at h1 h2
    exact (⟨⟨u, h1, h2⟩, h3⟩ : (∃ u, e = .returned (.tuple #[u, .agg #[.int .i64 3, .int .i64 3, .int .i64 0], .int .i64 0]) ∧ Tab w' u threeT) ∧ Below W.heap.size W w'))
  have HS := Lib.hid fun (W : World) (a b : Value) (h1 : Tab W a threeT) (h2 : Tab W b threeT) => (same18_any W a b threeT threeT h1 h2)
  go_enter Try.func31, Try.ntmps31
  go_wp2_with (first
    | (go_at_call 55; (refine (small55_any _).mono ?_); rintro e w1 ⟨⟨A, c, rfl, ht⟩, hb⟩
       have HT1 := Lib.hid ht
       have HB1 := Lib.hid hb
       clear ht hb)
    | (go_at_call 32; (refine (HE.out _ _ _ (kept_tab.below HT1.out (one_word_below w1 1)) (one_word w1 1 (by omega))).mono ?_); rintro e w2 ⟨⟨u, rfl, ht⟩, hb⟩
       have HT2 := Lib.hid ht
       have HB2 := Lib.hid ((HB1.out.trans ((one_word_below w1 1).mono HB1.out.size)).trans (hb.mono (Nat.le_trans HB1.out.size (one_word_below w1 1).size)))
       obtain ⟨A2, c2, rfl⟩ := Tab.form ht
       have HBa : Hid (Below w2.heap.size w2 (w2.alloc (.cells #[.int .i64 3, .int .i64 3, .int .i64 0] 49))) := Lib.hid ((Below.refl _ _).alloc (Nat.le_refl _) _)
       clear ht hb)
    | (go_at_call 56; (refine (three56_any _).mono ?_); rintro e w3 ⟨⟨u3, rfl, ht⟩, hb⟩
       have HT3 := Lib.hid ht
       have HB3 := Lib.hid (HBa.out.trans (hb.mono HBa.out.size))
       clear ht hb)
    | (go_at_call 34; (refine (HS.out _ _ _ (kept_tab.below HT2.out HB3.out) HT3.out).mono ?_); rintro e w4 ⟨rfl, q, rfl⟩))
  go_ret
  exact ⟨ret_bool (by simp), below_drewN (HB2.out.trans (HB3.out.mono HB2.out.size)) _⟩
end Go.Proofs
namespace Go.Proofs
open Go.RowKit Go.Shelf Go.Proofs.Ct Go.Maps
def traceE (g : Int) (t : Tb) (r : Int) (ws : List Int) : Int × Bool :=
  if (check g t).1 ≠ 0 then (0, false) else
  if r < 0 ∨ (t.length : Int) ≤ r then (0, false) else
  if (ws.any (letBad g.toNat)) = true then (0, false) else
  (if leads t r ws < 0 then 0 else leads t r ws, decide (0 ≤ leads t r ws))
def TracePostE (g : Int) (t : Tb) (r : Int) (ws : List Int) (w : World) (e : Ending) (w' : World) : Prop :=
  e = .returned (.tuple #[.int .i64 (traceE g t r ws).1, .bool (traceE g t r ws).2]) ∧ Below w.heap.size w w'
set_option maxRecDepth 100000 in
set_option maxHeartbeats 1000000 in
theorem trace40_any (w : World) (v u : Value) (g : Int) (t : Tb) (r : Int) (ws : List Int) (ht : Tab w v t) (hu : IntsAt w u ws) : Calls Try.prog 40 #[.int .i64 g, v, .int .i64 r, u] w (TracePostE g t r ws w) := by
  have HC := Lib.hid (check43_any w v g t ht)
  have HT := Lib.hid ht
  have HU := Lib.hid hu
  obtain ⟨A, c, rfl, hc1, hc2, hc⟩ := ht.open_
  obtain ⟨Au, cu, rfl, -, -, -⟩ := hu.open_
  clear hc ht hu
  unfold TracePostE
  by_cases h1 : (check g t).1 = 0
  · obtain ⟨h0, hg, -⟩ := check_good h1
    obtain ⟨gn, rfl⟩ : ∃ n : Nat, g = n := ⟨g.toNat, by omega⟩
    rw [Int.toNat_natCast] at hg
    have hck := check_of_good hg
    have HC' : Hid (Calls Try.prog 43 #[.int .i64 (gn : Int), .slice A t.length c] w fun e w' => e = .returned (.tuple #[.int .i64 0, .int .i64 (-1)]) ∧ Below w.heap.size w w') := Lib.hid (HC.out.mono fun e w' ⟨h2, h3⟩ => by rw [hck] at h2; exact ⟨h2, h3⟩)
    have hg16 := hg.g16
    by_cases h2 : r < 0
    · have HE : Hid (traceE (gn : Int) t r ws = (0, false)) := Lib.hid (by unfold traceE; rw [if_neg (by omega), if_pos (.inl h2)])
      clear HC h1 h0 hck hg HT HU
      generalize traceE (gn : Int) t r ws = X at *
      go_enter Try.func40, Try.ntmps40
      go_wp2_with (go_at_call 43; (refine HC'.out.mono ?_); rintro e w' ⟨rfl, hb⟩; have HB := Lib.hid hb; clear hb)
      go_ret2
      exact ⟨ret_ib (by rw [HE.out]) (by rw [HE.out]), HB.out⟩
    · by_cases h3 : (t.length : Int) ≤ r
      · have HE : Hid (traceE (gn : Int) t r ws = (0, false)) := Lib.hid (by unfold traceE; rw [if_neg (by omega), if_pos (.inr h3)])
        clear HC h1 h0 hck hg HT HU
        generalize traceE (gn : Int) t r ws = X at *
        go_enter Try.func40, Try.ntmps40
        go_wp2_with (go_at_call 43; (refine HC'.out.mono ?_); rintro e w' ⟨rfl, hb⟩; have HB := Lib.hid hb; clear hb)
        go_ret2
        exact ⟨ret_ib (by rw [HE.out]) (by rw [HE.out]), HB.out⟩
      · obtain ⟨rn, rfl⟩ : ∃ n : Nat, r = n := ⟨r.toNat, by omega⟩
        have hr : rn < t.length := by omega
        have HF : Hid (∀ w', Below w.heap.size w w' → Calls Try.prog 83 #[.int .i64 (gn : Int), .slice Au ws.length cu] w' fun e w'' => e = .returned (.bool (!(ws.any (letBad gn)))) ∧ Below w'.heap.size w' w'') := Lib.hid fun w' hb => fine83_any w' gn _ ws hg16 (kept_ints.below HU.out hb)
        by_cases h4 : ws.any (letBad gn) = true
        · have HE : Hid (traceE (gn : Int) t (rn : Int) ws = (0, false)) := Lib.hid (by unfold traceE; rw [if_neg (by omega), if_neg (by omega), if_pos (by simpa using h4)])
          rw [h4] at HF
          clear HC h1 h0 hck hg HT HU h4
          generalize traceE (gn : Int) t (rn : Int) ws = X at *
          go_enter Try.func40, Try.ntmps40
          go_wp2_with (first
            | (go_at_call 43; (refine HC'.out.mono ?_); rintro e w' ⟨rfl, hb⟩; have HB := Lib.hid hb; clear hb)
            | (go_at_call 83; (refine (HF.out _ HB.out).mono ?_); rintro e w' ⟨rfl, hb⟩; have HB2 := Lib.hid (HB.out.trans (hb.mono HB.out.size)); clear hb))
          go_ret2
          exact ⟨ret_ib (by rw [HE.out]) (by rw [HE.out]), HB2.out⟩
        · have h4' : ws.any (letBad gn) = false := by simpa using h4
          have HE : Hid (traceE (gn : Int) t (rn : Int) ws = (if leads t rn ws < 0 then 0 else leads t rn ws, decide (0 ≤ leads t rn ws))) := Lib.hid (by unfold traceE; rw [if_neg (by omega), if_neg (by omega), if_neg (by simpa using h4)])
          have HW : Hid (∀ w', Below w.heap.size w w' → Calls Try.prog 94 #[.slice A t.length c, .int .i64 (rn : Int), .slice Au ws.length cu] w' (TracePost (leads t rn ws) w')) := Lib.hid fun w' hb => trace94_any w' _ _ gn t rn ws (kept_tab.below HT.out hb) (kept_ints.below HU.out hb) hg (letsOk_of h4') hr
          rw [h4'] at HF
          unfold TracePost at HW
          rw [HE.out]
          clear HC h1 h0 hck hg HT HU h4 h4' HE
          generalize leads t rn ws = l at *
          generalize decide (0 ≤ l) = y at *
          generalize (if l < 0 then 0 else l) = x at *
          go_enter Try.func40, Try.ntmps40
          go_wp2_with (first
            | (go_at_call 43; (refine HC'.out.mono ?_); rintro e w' ⟨rfl, hb⟩; have HB := Lib.hid hb; clear hb)
            | (go_at_call 83; (refine (HF.out _ HB.out).mono ?_); rintro e w' ⟨rfl, hb⟩; have HB2 := Lib.hid (HB.out.trans (hb.mono HB.out.size)); clear hb)
            | (go_at_call 94; (refine (HW.out _ HB2.out).mono ?_); rintro e w' ⟨rfl, q, rfl⟩))
          go_ret2
          exact ⟨rfl, below_drewN HB2.out q⟩
  · have HE : Hid (traceE g t r ws = (0, false)) := Lib.hid (by unfold traceE; rw [if_pos h1])
    have hx : ((check g t).1 != 0) = true := by simpa using h1
    unfold CheckPost at HC
    clear HT HU h1
    generalize traceE g t r ws = X at *
    generalize (check g t).1 = e1 at *
    generalize (check g t).2 = e2 at *
    go_enter Try.func40, Try.ntmps40
    go_wp2_with (go_at_call 43; (refine HC.out.mono ?_); rintro e w' ⟨rfl, hb⟩; have HB := Lib.hid hb; clear hb)
    go_ret2
    exact ⟨ret_ib (by rw [HE.out]) (by rw [HE.out]), HB.out⟩
end Go.Proofs
namespace Go.Proofs
open Go.RowKit Go.Shelf Go.Proofs.Ct Go.Maps
theorem take_snoc {α : Type} {d : α} {l : List α} {k : Nat} (h : k < l.length) : l.take (k + 1) = l.take k ++ [l.getD k d] := by
  rw [List.take_add_one, List.getD_eq_getElem?_getD, List.getElem?_eq_getElem h]; rfl
set_option maxRecDepth 100000 in
set_option maxHeartbeats 1000000 in
theorem plain52_any (w : World) (v : Value) (l : List W) (ht : Tab w v l) (hl : l.length ≤ 1000000) : Calls Try.prog 52 #[v] w fun e w' => (∃ u, e = .returned u ∧ Tab w' u l) ∧ Below w.heap.size w w' := by
  obtain ⟨A, c, rfl, h1, h2, h3⟩ := ht.open_
  have HL := Lib.hid h3
  have h0 : OwnT 24 w.heap.size (fun k => k < w.heap.size) w (.slice none 0 0) [] := ⟨[], World.ownsRow_nil _ _ _ _, RowsF.nil _ _⟩
  have H0 := Lib.hid h0
  clear ht h3 h0
  go_enter Try.func52, Try.ntmps52
  go_wp2_with fail
  go_loopw [3, 4] (fun so i wr => ∃ k : Nat, i = .int .i64 k ∧ k ≤ l.length ∧ ∃ A c, so = .slice A k c ∧ Hid (OwnT 24 w.heap.size (fun k => k < w.heap.size) wr so (l.take k)) ∧ Hid (Below w.heap.size w wr)) (fun _ i _ => l.length - (intOf i).toNat)
  case atStart => exact ⟨0, rfl, by omega, none, 0, rfl, H0, Lib.hid (Below.refl _ _)⟩
  case round =>
    clear H0
    obtain ⟨k, rfl, hk, A2, c2, rfl, HO, HB⟩ := hrel
    have hk0 : (0 : Int) ≤ (k : Int) := Int.natCast_nonneg _
    by_cases hlt : k < l.length
    · have hlt' : (k : Int) < (l.length : Int) := by omega
      obtain ⟨b, o, rfl, hcc⟩ := HL.out (by omega)
      obtain ⟨u, hu0, hI⟩ := hcc k hlt
      have hu := (HB.out.cell (p := ⟨b, o + k, none⟩) (World.block_lt_of_cell? w _ hu0)).trans hu0
      have hI2 : IntsAt w u (l.getD k []) := hI
      obtain ⟨Ar, cr, rfl, -, -, -⟩ := hI2.open_
      have hF := (IntsF.of_at hI2).keep (Ag.below HB.out fun _ h => h)
      have hFs : ∀ j, j < w.heap.size → j < (wr.heap.size) ∧ (Value.slice A2 k c2).ownBlock ≠ some j := fun j hj => ⟨Nat.lt_of_lt_of_le hj HB.out.size, fun e => by
        obtain ⟨h1, -⟩ := OwnT.block HO.out j e
        omega⟩
      obtain ⟨A', c', w', hr, ho, hg, hw⟩ := push_row (ty := 23) Try.underlying23 info24p wr w.heap.size (fun k => k < w.heap.size) _ (l.take k) HO.out Ar (l.getD k []).length cr (l.getD k []) hF hFs (by rw [List.length_take]; omega) HB.out.size
      have hlk : (l.take k).length = k := by rw [List.length_take]; omega
      rw [hlk] at hr ho
      rw [← take_snoc hlt] at ho
      have HR := Lib.hid hr
      have HO' := Lib.hid ho
      have HB' : Hid (Below w.heap.size w w') := Lib.hid (HB.out.grown hg HB.out.size fun r hr => (OwnT.block HO.out r hr).1)
      clear hr ho hw hcc hI hI2 hF hFs hu0 hg
      generalize (l.getD k []).length = n at *
      go_wp2_with ((with_reducible refine wpList_sel 17 ?_); refine wpList_val rfl (r_app (.tmp 11) (.tmp 16) 23 rfl rfl rfl HR.out) ?_)
      go_roundw
      case rel => exact ⟨k + 1, by go_num, by omega, _, _, rfl, HO', HB'⟩
      case measure => simp [intOf]; omega
    · obtain rfl : k = l.length := by omega
      have ho := HO.out
      rw [List.take_of_length_le (Nat.le_refl _)] at ho
      have HT := Lib.hid ho.tab
      clear ho
      go_wp2_with fail
      go_ret
      exact ⟨⟨_, rfl, HT.out⟩, HB.out⟩
/-- the images of a generator at the first k cosets; of the first generators -/
def colTo (t : Tb) (c k : Nat) : List Int := (List.range k).map fun r => t.at r (2 * c)
theorem colTo_succ (t : Tb) (c k : Nat) : colTo t c (k + 1) = colTo t c k ++ [t.at k (2 * c)] := by simp [colTo, List.range_succ]
theorem length_colTo (t : Tb) (c k : Nat) : (colTo t c k).length = k := by simp [colTo]
def imgTo (t : Tb) (m : Nat) : Tb := (List.range m).map fun c => colTo t c t.length
def imgE (g : Int) (t : Tb) : Tb × Int :=
  if (check g t).1 ≠ 0 then ([], (check g t).1) else
  if complete t = false then ([], 13) else (imgTo t g.toNat, 0)
def ImgPost (g : Int) (t : Tb) (w : World) (e : Ending) (w' : World) : Prop := (∃ u, e = .returned (.tuple #[u, .int .i64 (imgE g t).2]) ∧ Tab w' u (imgE g t).1) ∧ Below w.heap.size w w'
theorem fits_colTo {g : Nat} {t : Tb} (hg : TGood g t) {c k : Nat} (hc : c < g) (hk : k ≤ t.length) : Fits (colTo t c k) := fun x hx => by
  obtain ⟨r, hr, rfl⟩ := List.mem_map.1 hx
  have := hg.bd r (by have := List.mem_range.1 hr; omega) (2 * c) (by omega)
  have := hg.n2
  omega
end Go.Proofs
