/- smith.clear at rows and at columns; smith.clear at columns; smith.rest at rows and at columns; (smith.work).down, across and sign: steps of the procedure; (smith.work).sign and spread: steps of the procedure. -/
import Derived.Test.YthfachbkcmifbaaGreatGrCS4
namespace Go.Proofs
open Go.RowKit Go.Shelf Go.Proofs.Sm
theorem tdiv_small {x y : Int} (hx : -1000000000 ≤ x ∧ x ≤ 1000000000) : -1000000000 ≤ x.tdiv y ∧ x.tdiv y ≤ 1000000000 := by
  have := Int.natAbs_tdiv_le_natAbs x y
  omega
theorem step_small {x y q : Int} (hx : -1000000000 ≤ x ∧ x ≤ 1000000000) (hy : -1000000000 ≤ y ∧ y ≤ 1000000000) (hq : -1000000000 ≤ q ∧ q ≤ 1000000000) : In64 x ∧ In64 y ∧ In64 (-q * y) ∧ In64 (x + -q * y) ∧ Mid (x + -q * y) := by
  have h := mul_bd (X := 1000000000) (Y := 1000000000) (x := -q) (y := y) (by omega) hy
  unfold In64 Mid
  generalize -q * y = z at *
  omega
theorem mid_rows {s : S} (ha : ∀ i j, Mid (ent s.a i j)) (hu : ∀ i j, Mid (ent s.u i j)) (hv : ∀ i j, Mid (ent s.v i j)) : ∀ y ∈ allRows s, ∀ z ∈ y, Mid z := by
  have key : ∀ m : Mat, (∀ i j, Mid (ent m i j)) → ∀ y ∈ m, ∀ z ∈ y, Mid z := fun m h y hy z hz => by
    obtain ⟨i, hi, rfl⟩ := List.getElem_of_mem hy
    obtain ⟨j, hj, rfl⟩ := List.getElem_of_mem hz
    have := h i j
    unfold ent at this
    rw [List.getD_eq_getElem?_getD (l := m), List.getElem?_eq_getElem hi] at this
    simpa [List.getD_eq_getElem?_getD, List.getElem?_eq_getElem hj] using this
  intro y hy
  unfold allRows at hy
  rw [List.mem_append, List.mem_append] at hy
  rcases hy with hy | hy | hy
  · exact key _ ha y hy
  · exact key _ hu y hy
  · exact key _ hv y hy
section
variable {r n : Nat} {s : S}
theorem Sm.Base.bda (h : Base r n s) (i j : Nat) : -1000000000 ≤ ent s.a i j ∧ ent s.a i j ≤ 1000000000 := fineM_iff.1 h.fa i j
theorem Sm.Base.bdu (h : Base r n s) (i j : Nat) : -1000000000 ≤ ent s.u i j ∧ ent s.u i j ≤ 1000000000 := fineM_iff.1 h.fu i j
theorem Sm.Base.bdv (h : Base r n s) (i j : Nat) : -1000000000 ≤ ent s.v i j ∧ ent s.v i j ≤ 1000000000 := fineM_iff.1 h.fv i j
theorem mid_of {x : Int} (h : -1000000000 ≤ x ∧ x ≤ 1000000000) : Mid x := by unfold Mid; omega
/-- the state behind some rounds of a clearing of rows -/
theorem dn_round (h : Piv r n s) {i : Nat} (hi : s.t + 1 ≤ i) (hr : i < r) : let σ := upto S.dn s (s.t + 1) i
    Shape r n σ ∧ ent σ.a i s.t = ent s.a i s.t ∧ ent σ.a s.t s.t = ent s.a s.t s.t ∧ upto S.dn s (s.t + 1) (i + 1) = σ.addR i s.t (-qR s i) ∧ FitR σ.a i s.t (-qR s i) ∧ FitR σ.u i s.t (-qR s i) ∧ (qR s i = 0 → upto S.dn s (s.t + 1) (i + 1) = σ) ∧ σ.t = s.t := by
  intro σ
  have hd : Dn r n s σ i := dn_upto h.sh h.ltr i hi (by omega)
  have e1 : ent σ.a i s.t = ent s.a i s.t := by rw [hd.a, if_neg (by omega)]
  have e2 : ent σ.a s.t s.t = ent s.a s.t s.t := by rw [hd.a, if_neg (by omega)]
  have e3 : upto S.dn s (s.t + 1) (i + 1) = σ.addR i s.t (-qR s i) := by
    rw [upto_succ _ _ hi]
    show σ.dn i = _
    unfold S.dn qR
    rw [hd.t, e1, e2]
  have hq : -1000000000 ≤ qR s i ∧ qR s i ≤ 1000000000 := tdiv_small (h.bda _ _)
  refine ⟨hd.sh, e1, e2, e3, fun j => ?_, fun j => ?_, fun h0 => ?_, hd.t⟩
  · rw [hd.a i j, hd.a s.t j, if_neg (by omega), if_neg (by omega)]
    obtain ⟨a, b, c, d, -⟩ := step_small (h.bda i j) (h.bda s.t j) hq
    exact ⟨a, b, c, d⟩
  · rw [hd.u i j, hd.u s.t j, if_neg (by omega), if_neg (by omega)]
    obtain ⟨a, b, c, d, -⟩ := step_small (h.bdu i j) (h.bdu s.t j) hq
    exact ⟨a, b, c, d⟩
  · rw [e3, h0]
    show S.mk (Sm.addR σ.a i s.t (-0)) (Sm.addR σ.u i s.t (-0)) σ.v σ.t = σ
    rw [Int.neg_zero, addR_zero hd.sh.ra hr h.ltr, addR_zero hd.sh.ru hr h.ltr]
theorem mid_down (h : Piv r n s) : ∀ y ∈ allRows (s.down r), ∀ z ∈ y, Mid z := by
  have hd := down_at h
  refine mid_rows (fun i j => ?_) (fun i j => ?_) (fun i j => by rw [hd.v]; exact mid_of (h.bdv i j))
  · rw [hd.a]
    split
    · exact (step_small (h.bda i j) (h.bda s.t j) (tdiv_small (h.bda _ _))).2.2.2.2
    · exact mid_of (h.bda i j)
  · rw [hd.u]
    split
    · exact (step_small (h.bdu i j) (h.bdu s.t j) (tdiv_small (h.bda _ _))).2.2.2.2
    · exact mid_of (h.bdu i j)
theorem ac_round (h : Acr r n s) {j : Nat} (hj : s.t + 1 ≤ j) (hn : j < n) : let σ := upto S.ac s (s.t + 1) j
    Shape r n σ ∧ ent σ.a s.t j = ent s.a s.t j ∧ ent σ.a s.t s.t = ent s.a s.t s.t ∧ upto S.ac s (s.t + 1) (j + 1) = σ.addC j s.t (-qC s j) ∧ FitC σ.a j s.t (-qC s j) ∧ FitC σ.v j s.t (-qC s j) ∧ (qC s j = 0 → upto S.ac s (s.t + 1) (j + 1) = σ) ∧ σ.t = s.t := by
  intro σ
  have hd : Ac r n s σ j := ac_upto h.sh h.ltn j hj (by omega)
  have e1 : ent σ.a s.t j = ent s.a s.t j := by rw [hd.a, if_neg (by omega)]
  have e2 : ent σ.a s.t s.t = ent s.a s.t s.t := by rw [hd.a, if_neg (by omega)]
  have e3 : upto S.ac s (s.t + 1) (j + 1) = σ.addC j s.t (-qC s j) := by
    rw [upto_succ _ _ hj]
    show σ.ac j = _
    unfold S.ac qC
    rw [hd.t, e1, e2]
  have hq : -1000000000 ≤ qC s j ∧ qC s j ≤ 1000000000 := tdiv_small (h.bda _ _)
  refine ⟨hd.sh, e1, e2, e3, fun i => ?_, fun i => ?_, fun h0 => ?_, hd.t⟩
  · rw [hd.a i j, hd.a i s.t, if_neg (by omega), if_neg (by omega)]
    obtain ⟨a, b, c, d, -⟩ := step_small (h.bda i j) (h.bda i s.t) hq
    exact ⟨a, b, c, d⟩
  · rw [hd.v i j, hd.v i s.t, if_neg (by omega), if_neg (by omega)]
    obtain ⟨a, b, c, d, -⟩ := step_small (h.bdv i j) (h.bdv i s.t) hq
    exact ⟨a, b, c, d⟩
  · rw [e3, h0]
    show S.mk (Sm.addC σ.a j s.t (-0)) σ.u (Sm.addC σ.v j s.t (-0)) σ.t = σ
    rw [Int.neg_zero, addC_zero hd.sh.ra hn, addC_zero hd.sh.rv hn]
theorem mid_across (h : Acr r n s) : ∀ y ∈ allRows (s.across n), ∀ z ∈ y, Mid z := by
  have hd := across_at h.toPiv
  refine mid_rows (fun i j => ?_) (fun i j => by rw [hd.u]; exact mid_of (h.bdu i j)) (fun i j => ?_)
  · rw [hd.a]
    split
    · exact (step_small (h.bda i j) (h.bda i s.t) (tdiv_small (h.bda _ _))).2.2.2.2
    · exact mid_of (h.bda i j)
  · rw [hd.v]
    split
    · exact (step_small (h.bdv i j) (h.bdv i s.t) (tdiv_small (h.bda _ _))).2.2.2.2
    · exact mid_of (h.bdv i j)
end
theorem m_rmany (a : Addr) (w : World) : (method 237 100 (.agg #[.pointer (some a)]) "cayley/smith.many").run Tryz.prog w = .ok (119, .agg #[.pointer (some a)]) w := by kernel_rfl
theorem m_rentry (a : Addr) (w : World) : (method 237 100 (.agg #[.pointer (some a)]) "cayley/smith.entry").run Tryz.prog w = .ok (118, .agg #[.pointer (some a)]) w := by kernel_rfl
theorem m_radd (a : Addr) (w : World) : (method 237 100 (.agg #[.pointer (some a)]) "cayley/smith.add").run Tryz.prog w = .ok (100, .agg #[.pointer (some a)]) w := by kernel_rfl
theorem m_cmany (a : Addr) (w : World) : (method 237 102 (.agg #[.pointer (some a)]) "cayley/smith.many").run Tryz.prog w = .ok (122, .agg #[.pointer (some a)]) w := by kernel_rfl
theorem m_centry (a : Addr) (w : World) : (method 237 102 (.agg #[.pointer (some a)]) "cayley/smith.entry").run Tryz.prog w = .ok (121, .agg #[.pointer (some a)]) w := by kernel_rfl
theorem m_cadd (a : Addr) (w : World) : (method 237 102 (.agg #[.pointer (some a)]) "cayley/smith.add").run Tryz.prog w = .ok (120, .agg #[.pointer (some a)]) w := by kernel_rfl
/-- what a clearing reads: the receiver's box, the matrix, the place, its row, its entry -/
abbrev Seen (Q b t r n g d bt ct : Nat) (y : Int) (W : World) : Prop :=
  W.cell? ⟨Q, 0, none⟩ = some (.pointer (some ⟨b, 0, none⟩)) ∧ W.cell? ⟨b, 0, none⟩ = some (.slice (some ⟨g, 0, none⟩) r d) ∧ W.cell? ⟨b, 3, none⟩ = some (.int .i64 (t : Int)) ∧ W.cell? ⟨g, t, none⟩ = some (.slice (some ⟨bt, 0, none⟩) n ct) ∧ W.cell? ⟨bt, t, none⟩ = some (.int .i64 y)
theorem seen_below {Q b t r n g d bt ct : Nat} {y : Int} {W W' : World} (h : Seen Q b t r n g d bt ct y W) (hb : Below W.heap.size W W') : Seen Q b t r n g d bt ct y W' := by
  obtain ⟨h1, h2, h3, h4, h5⟩ := h
  exact ⟨(hb.cell (World.block_lt_of_cell? W _ h1)).trans h1, (hb.cell (World.block_lt_of_cell? W _ h2)).trans h2, (hb.cell (World.block_lt_of_cell? W _ h3)).trans h3, (hb.cell (World.block_lt_of_cell? W _ h4)).trans h4, (hb.cell (World.block_lt_of_cell? W _ h5)).trans h5⟩
theorem Wk.seen {T b base Q r n : Nat} {W : World} {s : S} {z : Int} {t : Nat} (hW : Wk T b base W s (.int .i64 z)) (hz : z = (t : Int)) (hs : Shape r n s) (htr : t < r) (htn : t < n) (hq : W.cell? ⟨Q, 0, none⟩ = some (.pointer (some ⟨b, 0, none⟩))) : ∃ g d bt ct, Seen Q b t r n g d bt ct (ent s.a t t) W ∧ n ≤ ct ∧ ct ≤ 9223372036854775807 ∧ r ≤ d ∧ d ≤ 9223372036854775807 := by
  obtain ⟨vs, bl, cs, hM⟩ := hW
  obtain ⟨c0, c1, c2, c3, c4⟩ := hM.cells
  have hl : (s.mat 0).length = r := hs.ra.1
  have hrl : ((s.mat 0).getD t []).length = n := rect_row hs.ra htr
  obtain ⟨g, d, hv, h1, -, -⟩ := hM.row_at (k := 0) (i := t) (by omega) (by rw [hl]; exact htr)
  obtain ⟨h2, -⟩ := hM.ent_at (k := 0) (i := t) (j := t) (by omega) (by rw [hl]; exact htr) (by rw [hrl]; exact htn)
  obtain ⟨-, -, h3, h4⟩ := hM.row 0 t (by omega) (by rw [hl]; exact htr)
  obtain ⟨A, c, hf, h5, h6⟩ := hM.form (k := 0) (by omega)
  rw [hrl] at h1 h3
  rw [hv, hl] at c0
  rw [hv, hl] at hf
  rw [hl] at h5
  have hcd : d = c := by injection hf
  subst hcd
  exact ⟨g, d, bl 0 t, cs 0 t, ⟨hq, c0, by rw [c3, hz], h1, h2⟩, h3, h4, h5, h6⟩
set_option maxRecDepth 100000 in
set_option maxHeartbeats 1000000 in
theorem clear91_any (base b r n : Nat) (w : World) (s : S) (hp : Piv r n s) (hr : r ≤ 100000) (hn : n ≤ 100000) (hS : Wk 62 b base w s (.int .i64 (s.t : Int))) (hbw : base ≤ w.heap.size) :
    Calls Tryz.prog 86 #[.pointer (some ⟨b, 0, none⟩), .agg #[.pointer (some ⟨b, 0, none⟩)]] w fun e w' => (((s.down r).fine = true ∧ e = .returned (.tuple #[]) ∧ Wk 62 b base w' (s.down r) (.int .i64 (s.t : Int))) ∨ ((s.down r).fine = false ∧ e = .panicked failP)) ∧ Ch base w w' := by
  have hc3 : w.cell? ⟨b, 3, none⟩ = some (.int .i64 (s.t : Int)) := by obtain ⟨vs, bl, cs, hM⟩ := hS; exact hM.cells.2.2.2.1
  have hbl : b < w.heap.size := World.block_lt_of_cell? w _ hc3
  have ht := hp.ltr
  have htn := hp.ltn
  have HS := Lib.hid hS
  have HP := Lib.hid hp
  clear hS hp
  obtain ⟨t, hst⟩ : ∃ t, t = s.t := ⟨_, rfl⟩
  rw [← hst] at ht htn hc3
  have HT := Lib.hid hst
  rw [← hst]
  clear hst
  have ht0 : (0 : Int) ≤ (t : Int) := Int.natCast_nonneg _
  have ht1 : (t : Int) + 1 ≤ 100001 := by omega
  have hm1 := m_rmany ⟨b, 0, none⟩
  have hm2 := m_rentry ⟨b, 0, none⟩
  have hm3 := m_radd ⟨b, 0, none⟩
  go_enter Tryz.func86, Tryz.ntmps86
  go_wp2_with fail
  go_loopw [4] (fun z wr => ∃ i : Nat, t + 1 ≤ i ∧ i ≤ r ∧ z = .int .i64 i ∧ Hid (Wk 62 b base wr (upto S.dn s (t + 1) i) (.int .i64 (t : Int)) ∧ Ch base w wr ∧ wr.heap[w.heap.size]? = some (.cells #[.pointer (some ⟨b, 0, none⟩)] 100 (0, 0)))) (fun z _ => r - (intOf z).toNat)
  case atStart => exact ⟨t + 1, by omega, by omega, by go_num, Lib.hid ⟨by rw [upto_self, HT.out]; exact HS.out.below ((Below.refl _ _).alloc (Nat.le_refl _) _), Ch.of_below hbw ((Below.refl _ _).alloc (Nat.le_refl _) _), heap_alloc_new w _⟩⟩
  case round =>
    obtain ⟨i, hi1, hi2, rfl, HR⟩ := hrel
    have hi0 : (0 : Int) ≤ (i : Int) := Int.natCast_nonneg _
    have hbx : wr.cell? ⟨w.heap.size, 0, none⟩ = some (.pointer (some ⟨b, 0, none⟩)) := by rw [cell_of_row _ _ _ _ _ _ HR.out.2.2]; rfl
    have HSH : Hid (Shape r n (upto S.dn s (t + 1) i)) := Lib.hid (by rw [HT.out]; rw [HT.out] at hi1; exact (dn_upto HP.out.sh HP.out.ltr i hi1 hi2).sh)
    have HMANY := Lib.hid (rmany125_any base b r n wr _ _ HSH.out HR.out.1)
    by_cases hlt : i < r
    · have hlt' : (i : Int) < (r : Int) := by omega
      obtain ⟨RS, Re1, Re2, Re3, Rf1, Rf2, Rz, Rt⟩ := dn_round HP.out (i := i) (by rw [← HT.out]; exact hi1) hlt
      rw [← HT.out] at RS Re1 Re2 Re3 Rf1 Rf2 Rz Rt
      have hpiv := HP.out.piv
      have hbt := HP.out.toBase.bda i t
      rw [← HT.out] at hpiv
      have HQDEF : Hid (qR s i = (ent s.a i t).tdiv (ent s.a t t)) := Lib.hid (by unfold qR; rw [← HT.out])
      have HRS := Lib.hid RS
      have HR3 := Lib.hid Re3
      have HF1 := Lib.hid Rf1
      have HF2 := Lib.hid Rf2
      have HRZ := Lib.hid Rz
      have HRT := Lib.hid Rt
      have HENT : Hid (∀ W, Below wr.heap.size wr W → Calls Tryz.prog 118 #[.agg #[.pointer (some ⟨b, 0, none⟩)], .int .i64 (i : Int)] W fun e w' => e = .returned (.int .i64 (ent s.a i t)) ∧ Below W.heap.size W w') := Lib.hid fun W hb => by
        have h := rentry124_any base b r n i W (upto S.dn s (t + 1) i) RS hlt (by rw [Rt]; exact htn) (by rw [Rt]; exact HR.out.1.below hb)
        rw [Rt, Re1] at h
        exact h
      have hq1 := (tdiv_small (y := ent s.a t t) hbt).1
      have hq2 := (tdiv_small (y := ent s.a t t) hbt).2
      obtain ⟨g, d, bt, ct, hseen, hct1, hct2, hd1, hd2⟩ := HR.out.1.seen rfl RS ht htn hbx
      rw [Re2] at hseen
      have HSEEN := Lib.hid hseen
      clear RS Re1 Re2 Re3 Rf1 Rf2 Rz Rt hseen hbx
      generalize hx : ent s.a i t = x at *
      generalize hy : ent s.a t t = y at *
      clear hx hy
      have hw1 : IntKind.i64.wrap (x.tdiv y) = x.tdiv y := IntWalk.i64_in _ (by omega)
      have hy0 : (y == 0) = false := by simpa using hpiv
      obtain ⟨s1, s2, s3, s4, s5⟩ := HSEEN.out
      go_wp2_with (go_at_call 119; (with_reducible refine HMANY.out.mono ?_); rintro e w1 ⟨rfl, hb1⟩; have HB1 := Lib.hid hb1; clear hb1)
      clear s1 s2 s3 s4 s5
      obtain ⟨s1, s2, s3, s4, s5⟩ := seen_below HSEEN.out HB1.out
      have HS1 := Lib.hid (seen_below HSEEN.out (below_drew HB1.out))
      go_region_held3 (Seen w.heap.size b t r n g d bt ct y) (first | (with_reducible exact HS2.out) | (with_reducible exact HS1.out) | go_keep)
        ((go_at_call 118; (refine (HENT.out _ (below_drew HB1.out)).mono ?_); rintro e w2 ⟨rfl, hb2⟩; have HB2 := Lib.hid ((below_drew HB1.out).trans (hb2.mono (below_drew HB1.out).size)); have HS2 := Lib.hid (seen_below HSEEN.out HB2.out); clear hb2))
      clear s1 s2 s3 s4 s5
      obtain ⟨s1, s2, s3, s4, s5⟩ := HS2.out
      have HBX : Hid (w2.heap[w.heap.size]? = some (.cells #[.pointer (some ⟨b, 0, none⟩)] 100 (0, 0))) := Lib.hid ((HB2.out.block _ (Array.getElem?_eq_some_iff.1 HR.out.2.2).1).trans HR.out.2.2)
      have HCH2 := Lib.hid (HR.out.2.1.trans (Ch.of_below (Nat.le_trans hbw HR.out.2.1.size) HB2.out))
      generalize x.tdiv y = q at *
      by_cases hq0 : q = 0
      · have HNEW : Hid (Wk 62 b base w2 (upto S.dn s (t + 1) (i + 1)) (.int .i64 (t : Int))) := Lib.hid (by rw [HRZ.out (by rw [HQDEF.out, hq0])]; exact HR.out.1.below HB2.out)
        have hd1' : (q != 0) = false := by simpa using hq0
        clear hq0
        go_wp2_with fail
        go_roundw
        case rel => exact ⟨i + 1, by omega, by omega, by go_num, Lib.hid ⟨HNEW.out, HCH2.out, HBX.out⟩⟩
        case measure => simp [intOf]; omega
      · have hd1' : (q != 0) = true := by simpa using hq0
        have HADD : Hid (∀ W, Below wr.heap.size wr W → Calls Tryz.prog 100 #[.agg #[.pointer (some ⟨b, 0, none⟩)], .int .i64 (i : Int), .int .i64 (t : Int), .int .i64 (-q)] W fun e w' => e = .returned (.tuple #[]) ∧ Wk 62 b base w' (upto S.dn s (t + 1) (i + 1)) (.int .i64 (t : Int)) ∧ Ch base W w') := Lib.hid fun W hb => by
          have h := radd106_any base b i t r n (-q) W (upto S.dn s (t + 1) i) (.int .i64 (t : Int)) HRS.out hlt ht (by omega) (by omega) (HR.out.1.below hb) (Nat.le_trans hbw (Nat.le_trans HR.out.2.1.size hb.size)) (by rw [← HQDEF.out]; exact HF1.out) (by rw [← HQDEF.out]; exact HF2.out)
          rw [HQDEF.out] at HR3
          rw [← HR3.out] at h
          exact h
        have hwn : IntKind.i64.wrap (-q) = -q := IntWalk.i64_in _ (by omega)
        have HS5 := Lib.hid (seen_below HSEEN.out (below_drew HB2.out))
        have HS6 : Hid (w2.drew.cell? ⟨w.heap.size, 0, none⟩ = some (.pointer (some ⟨b, 0, none⟩)) ∧ w2.drew.cell? ⟨b, 3, none⟩ = some (.int .i64 (t : Int))) := Lib.hid ⟨HS5.out.1, HS5.out.2.2.1⟩
        clear hq0 s2 s4 s5
        go_wp2_with fail
        go_region_held3 (fun W => W.cell? ⟨w.heap.size, 0, none⟩ = some (.pointer (some ⟨b, 0, none⟩)) ∧ W.cell? ⟨b, 3, none⟩ = some (.int .i64 (t : Int))) (first | (with_reducible exact HS7.out) | (with_reducible exact HS6.out) | go_keep)
          ((go_at_call 100; (refine (HADD.out _ (below_drew HB2.out)).mono ?_); rintro e w3 ⟨rfl, hw3, hch⟩; have HW3 := Lib.hid hw3; have HCH3 := Lib.hid (HCH2.out.trans ((Ch.refl base w2).drew.trans hch)); have HBX3 : Hid (w3.heap[w.heap.size]? = some (.cells #[.pointer (some ⟨b, 0, none⟩)] 100 (0, 0))) := Lib.hid ((hch.keep _ _ _ HBX.out (by decide) (by decide) (by decide) (by decide)).trans HBX.out); have HS7 : Hid (w3.cell? ⟨w.heap.size, 0, none⟩ = some (.pointer (some ⟨b, 0, none⟩)) ∧ w3.cell? ⟨b, 3, none⟩ = some (.int .i64 (t : Int))) := Lib.hid ⟨by rw [cell_of_row _ _ _ _ _ _ HBX3.out]; rfl, by obtain ⟨vs, bl, cs, hM⟩ := hw3; exact hM.cells.2.2.2.1⟩; clear hw3 hch))
        go_wp2_with fail
        go_roundw
        case rel => exact ⟨i + 1, by omega, by omega, by go_num, Lib.hid ⟨HW3.out, HCH3.out, HBX3.out⟩⟩
        case measure => simp [intOf]; omega
    · obtain rfl : i = r := by omega
      have hdn : upto S.dn s (t + 1) i = s.down i := by unfold S.down; rw [HT.out]
      have HCK : Hid (∀ W, Below wr.heap.size wr W → Calls Tryz.prog 94 #[.pointer (some ⟨b, 0, none⟩)] W (CheckPost W.heap.size (s.down i).fine W)) := Lib.hid fun W hb => check99_any base b i n W (s.down i) (.int .i64 (t : Int)) (by rw [← hdn]; exact HSH.out) hr hn (by rw [← hdn]; exact HR.out.1.below hb) (mid_down HP.out)
      have HWD : Hid (∀ W, Below wr.heap.size wr W → Wk 62 b base W (s.down i) (.int .i64 (t : Int))) := Lib.hid fun W hb => by rw [← hdn]; exact HR.out.1.below hb
      clear hdn
      cases hf : (s.down i).fine with
      | true =>
        have HCK2 : Hid (∀ W, Below wr.heap.size wr W → Calls Tryz.prog 94 #[.pointer (some ⟨b, 0, none⟩)] W fun e w' => e = .returned (.tuple #[]) ∧ Below W.heap.size W w') := Lib.hid fun W hb => (HCK.out W hb).mono fun e w' h1 => ⟨by
          obtain ⟨h, -⟩ := h1
          rcases h with ⟨-, h⟩ | ⟨h, -⟩
          · exact h
          · exact absurd (hf.symm.trans h) (by decide), h1.2⟩
        clear HCK
        have HF := Lib.hid hf
        clear hf
        go_wp2_with (first
          | (go_at_call 119; (with_reducible refine HMANY.out.mono ?_); rintro e w1 ⟨rfl, hb1⟩; have HB1 := Lib.hid hb1; clear hb1)
          | (go_at_call 94; (refine (HCK2.out _ HB1.out).mono ?_); rintro e w2 ⟨rfl, hb2⟩; have HB2 := Lib.hid (HB1.out.trans (hb2.mono HB1.out.size)); clear hb2))
        go_end0
        exact ⟨.inl ⟨HF.out, rfl, HWD.out _ HB2.out⟩, HR.out.2.1.trans (Ch.of_below (Nat.le_trans hbw HR.out.2.1.size) HB2.out)⟩
      | false =>
        have HCK2 : Hid (∀ W, Below wr.heap.size wr W → Calls Tryz.prog 94 #[.pointer (some ⟨b, 0, none⟩)] W fun e w' => e = .panicked failP ∧ Below W.heap.size W w') := Lib.hid fun W hb => (HCK.out W hb).mono fun e w' h1 => ⟨by
          obtain ⟨h, -⟩ := h1
          rcases h with ⟨h, -⟩ | ⟨-, h⟩
          · exact absurd (hf.symm.trans h) (by decide)
          · exact h, h1.2⟩
        clear HCK
        have HF := Lib.hid hf
        clear hf
        go_wp2_with (first
          | (go_at_call 119; (with_reducible refine HMANY.out.mono ?_); rintro e w1 ⟨rfl, hb1⟩; have HB1 := Lib.hid hb1; clear hb1)
          | (go_at_call 94; (refine (HCK2.out _ HB1.out).mono ?_); rintro e w2 ⟨rfl, hb2⟩; have HB2 := Lib.hid (HB1.out.trans (hb2.mono HB1.out.size)); clear hb2))
        exact ⟨rfl, .inr ⟨HF.out, rfl⟩, HR.out.2.1.trans (Ch.of_below (Nat.le_trans hbw HR.out.2.1.size) HB2.out)⟩
end Go.Proofs
namespace Go.Proofs
open Go.RowKit Go.Shelf Go.Proofs.Sm
set_option maxRecDepth 100000 in
set_option maxHeartbeats 1000000 in
theorem clear100_any (base b r n : Nat) (w : World) (s : S) (hp : Acr r n s) (hr : r ≤ 100000) (hn : n ≤ 100000) (hS : Wk 62 b base w s (.int .i64 (s.t : Int))) (hbw : base ≤ w.heap.size) :
    Calls Tryz.prog 95 #[.pointer (some ⟨b, 0, none⟩), .agg #[.pointer (some ⟨b, 0, none⟩)]] w fun e w' => (((s.across n).fine = true ∧ e = .returned (.tuple #[]) ∧ Wk 62 b base w' (s.across n) (.int .i64 (s.t : Int))) ∨ ((s.across n).fine = false ∧ e = .panicked failP)) ∧ Ch base w w' := by
  have hc3 : w.cell? ⟨b, 3, none⟩ = some (.int .i64 (s.t : Int)) := by obtain ⟨vs, bl, cs, hM⟩ := hS; exact hM.cells.2.2.2.1
  have hbl : b < w.heap.size := World.block_lt_of_cell? w _ hc3
  have ht := hp.ltr
  have htn := hp.ltn
  have HS := Lib.hid hS
  have HP := Lib.hid hp
  clear hS hp
  obtain ⟨t, hst⟩ : ∃ t, t = s.t := ⟨_, rfl⟩
  rw [← hst] at ht htn hc3
  have HT := Lib.hid hst
  rw [← hst]
  clear hst
  have ht0 : (0 : Int) ≤ (t : Int) := Int.natCast_nonneg _
  have ht1 : (t : Int) + 1 ≤ 100001 := by omega
  have hm1 := m_cmany ⟨b, 0, none⟩
  have hm2 := m_centry ⟨b, 0, none⟩
  have hm3 := m_cadd ⟨b, 0, none⟩
  go_enter Tryz.func95, Tryz.ntmps95
  go_wp2_with fail
  go_loopw [4] (fun z wr => ∃ i : Nat, t + 1 ≤ i ∧ i ≤ n ∧ z = .int .i64 i ∧ Hid (Wk 62 b base wr (upto S.ac s (t + 1) i) (.int .i64 (t : Int)) ∧ Ch base w wr ∧ wr.heap[w.heap.size]? = some (.cells #[.pointer (some ⟨b, 0, none⟩)] 102 (0, 0)))) (fun z _ => n - (intOf z).toNat)
  case atStart => exact ⟨t + 1, by omega, by omega, by go_num, Lib.hid ⟨by rw [upto_self, HT.out]; exact HS.out.below ((Below.refl _ _).alloc (Nat.le_refl _) _), Ch.of_below hbw ((Below.refl _ _).alloc (Nat.le_refl _) _), heap_alloc_new w _⟩⟩
  case round =>
    obtain ⟨i, hi1, hi2, rfl, HR⟩ := hrel
    have hi0 : (0 : Int) ≤ (i : Int) := Int.natCast_nonneg _
    have hbx : wr.cell? ⟨w.heap.size, 0, none⟩ = some (.pointer (some ⟨b, 0, none⟩)) := by rw [cell_of_row _ _ _ _ _ _ HR.out.2.2]; rfl
    have HSH : Hid (Shape r n (upto S.ac s (t + 1) i)) := Lib.hid (by rw [HT.out]; rw [HT.out] at hi1; exact (ac_upto HP.out.sh HP.out.ltn i hi1 hi2).sh)
    have HMANY := Lib.hid (cmany128_any base b r n wr _ _ HSH.out HR.out.1)
    by_cases hlt : i < n
    · have hlt' : (i : Int) < (n : Int) := by omega
      obtain ⟨RS, Re1, Re2, Re3, Rf1, Rf2, Rz, Rt⟩ := ac_round HP.out (j := i) (by rw [← HT.out]; exact hi1) hlt
      rw [← HT.out] at RS Re1 Re2 Re3 Rf1 Rf2 Rz Rt
      have hpiv := HP.out.piv
      have hbt := HP.out.toBase.bda t i
      rw [← HT.out] at hpiv
      have HQDEF : Hid (qC s i = (ent s.a t i).tdiv (ent s.a t t)) := Lib.hid (by unfold qC; rw [← HT.out])
      have HRS := Lib.hid RS
      have HR3 := Lib.hid Re3
      have HF1 := Lib.hid Rf1
      have HF2 := Lib.hid Rf2
      have HRZ := Lib.hid Rz
      have HRT := Lib.hid Rt
      have HENT : Hid (∀ W, Below wr.heap.size wr W → Calls Tryz.prog 121 #[.agg #[.pointer (some ⟨b, 0, none⟩)], .int .i64 (i : Int)] W fun e w' => e = .returned (.int .i64 (ent s.a t i)) ∧ Below W.heap.size W w') := Lib.hid fun W hb => by
        have h := centry127_any base b r n i W (upto S.ac s (t + 1) i) RS hlt (by rw [Rt]; exact ht) (by rw [Rt]; exact HR.out.1.below hb)
        rw [Rt, Re1] at h
        exact h
      have hq1 := (tdiv_small (y := ent s.a t t) hbt).1
      have hq2 := (tdiv_small (y := ent s.a t t) hbt).2
      obtain ⟨g, d, bt, ct, hseen, hct1, hct2, hd1, hd2⟩ := HR.out.1.seen rfl RS ht htn hbx
      rw [Re2] at hseen
      have HSEEN := Lib.hid hseen
      clear RS Re1 Re2 Re3 Rf1 Rf2 Rz Rt hseen hbx
      generalize hx : ent s.a t i = x at *
      generalize hy : ent s.a t t = y at *
      clear hx hy
      have hw1 : IntKind.i64.wrap (x.tdiv y) = x.tdiv y := IntWalk.i64_in _ (by omega)
      have hy0 : (y == 0) = false := by simpa using hpiv
      obtain ⟨s1, s2, s3, s4, s5⟩ := HSEEN.out
      go_wp2_with (go_at_call 122; (with_reducible refine HMANY.out.mono ?_); rintro e w1 ⟨rfl, hb1⟩; have HB1 := Lib.hid hb1; clear hb1)
      clear s1 s2 s3 s4 s5
      obtain ⟨s1, s2, s3, s4, s5⟩ := seen_below HSEEN.out HB1.out
      have HS1 := Lib.hid (seen_below HSEEN.out (below_drew HB1.out))
      go_region_held3 (Seen w.heap.size b t r n g d bt ct y) (first | (with_reducible exact HS2.out) | (with_reducible exact HS1.out) | go_keep)
        ((go_at_call 121; (refine (HENT.out _ (below_drew HB1.out)).mono ?_); rintro e w2 ⟨rfl, hb2⟩; have HB2 := Lib.hid ((below_drew HB1.out).trans (hb2.mono (below_drew HB1.out).size)); have HS2 := Lib.hid (seen_below HSEEN.out HB2.out); clear hb2))
      clear s1 s2 s3 s4 s5
      obtain ⟨s1, s2, s3, s4, s5⟩ := HS2.out
      have HBX : Hid (w2.heap[w.heap.size]? = some (.cells #[.pointer (some ⟨b, 0, none⟩)] 102 (0, 0))) := Lib.hid ((HB2.out.block _ (Array.getElem?_eq_some_iff.1 HR.out.2.2).1).trans HR.out.2.2)
      have HCH2 := Lib.hid (HR.out.2.1.trans (Ch.of_below (Nat.le_trans hbw HR.out.2.1.size) HB2.out))
      generalize x.tdiv y = q at *
      by_cases hq0 : q = 0
      · have HNEW : Hid (Wk 62 b base w2 (upto S.ac s (t + 1) (i + 1)) (.int .i64 (t : Int))) := Lib.hid (by rw [HRZ.out (by rw [HQDEF.out, hq0])]; exact HR.out.1.below HB2.out)
        have hd1' : (q != 0) = false := by simpa using hq0
        clear hq0
        go_wp2_with fail
        go_roundw
        case rel => exact ⟨i + 1, by omega, by omega, by go_num, Lib.hid ⟨HNEW.out, HCH2.out, HBX.out⟩⟩
        case measure => simp [intOf]; omega
      · have hd1' : (q != 0) = true := by simpa using hq0
        have HADD : Hid (∀ W, Below wr.heap.size wr W → Calls Tryz.prog 120 #[.agg #[.pointer (some ⟨b, 0, none⟩)], .int .i64 (i : Int), .int .i64 (t : Int), .int .i64 (-q)] W fun e w' => e = .returned (.tuple #[]) ∧ Wk 62 b base w' (upto S.ac s (t + 1) (i + 1)) (.int .i64 (t : Int)) ∧ Ch base W w') := Lib.hid fun W hb => by
          have h := cadd126_any base b i t r n (-q) W (upto S.ac s (t + 1) i) (.int .i64 (t : Int)) HRS.out hlt htn (by omega) (by omega) (HR.out.1.below hb) (Nat.le_trans hbw (Nat.le_trans HR.out.2.1.size hb.size)) (by rw [← HQDEF.out]; exact HF1.out) (by rw [← HQDEF.out]; exact HF2.out)
          rw [HQDEF.out] at HR3
          rw [← HR3.out] at h
          exact h
        have hwn : IntKind.i64.wrap (-q) = -q := IntWalk.i64_in _ (by omega)
        have HS5 := Lib.hid (seen_below HSEEN.out (below_drew HB2.out))
        have HS6 : Hid (w2.drew.cell? ⟨w.heap.size, 0, none⟩ = some (.pointer (some ⟨b, 0, none⟩)) ∧ w2.drew.cell? ⟨b, 3, none⟩ = some (.int .i64 (t : Int))) := Lib.hid ⟨HS5.out.1, HS5.out.2.2.1⟩
        clear hq0 s2 s4 s5
        go_wp2_with fail
        go_region_held3 (fun W => W.cell? ⟨w.heap.size, 0, none⟩ = some (.pointer (some ⟨b, 0, none⟩)) ∧ W.cell? ⟨b, 3, none⟩ = some (.int .i64 (t : Int))) (first | (with_reducible exact HS7.out) | (with_reducible exact HS6.out) | go_keep)
          ((go_at_call 120; (refine (HADD.out _ (below_drew HB2.out)).mono ?_); rintro e w3 ⟨rfl, hw3, hch⟩; have HW3 := Lib.hid hw3; have HCH3 := Lib.hid (HCH2.out.trans ((Ch.refl base w2).drew.trans hch)); have HBX3 : Hid (w3.heap[w.heap.size]? = some (.cells #[.pointer (some ⟨b, 0, none⟩)] 102 (0, 0))) := Lib.hid ((hch.keep _ _ _ HBX.out (by decide) (by decide) (by decide) (by decide)).trans HBX.out); have HS7 : Hid (w3.cell? ⟨w.heap.size, 0, none⟩ = some (.pointer (some ⟨b, 0, none⟩)) ∧ w3.cell? ⟨b, 3, none⟩ = some (.int .i64 (t : Int))) := Lib.hid ⟨by rw [cell_of_row _ _ _ _ _ _ HBX3.out]; rfl, by obtain ⟨vs, bl, cs, hM⟩ := hw3; exact hM.cells.2.2.2.1⟩; clear hw3 hch))
        go_wp2_with fail
        go_roundw
        case rel => exact ⟨i + 1, by omega, by omega, by go_num, Lib.hid ⟨HW3.out, HCH3.out, HBX3.out⟩⟩
        case measure => simp [intOf]; omega
    · obtain rfl : i = n := by omega
      have hdn : upto S.ac s (t + 1) i = s.across i := by unfold S.across; rw [HT.out]
      have HCK : Hid (∀ W, Below wr.heap.size wr W → Calls Tryz.prog 94 #[.pointer (some ⟨b, 0, none⟩)] W (CheckPost W.heap.size (s.across i).fine W)) := Lib.hid fun W hb => check99_any base b r i W (s.across i) (.int .i64 (t : Int)) (by rw [← hdn]; exact HSH.out) hr hn (by rw [← hdn]; exact HR.out.1.below hb) (mid_across HP.out)
      have HWD : Hid (∀ W, Below wr.heap.size wr W → Wk 62 b base W (s.across i) (.int .i64 (t : Int))) := Lib.hid fun W hb => by rw [← hdn]; exact HR.out.1.below hb
      clear hdn
      cases hf : (s.across i).fine with
      | true =>
        have HCK2 : Hid (∀ W, Below wr.heap.size wr W → Calls Tryz.prog 94 #[.pointer (some ⟨b, 0, none⟩)] W fun e w' => e = .returned (.tuple #[]) ∧ Below W.heap.size W w') := Lib.hid fun W hb => (HCK.out W hb).mono fun e w' h1 => ⟨by
          obtain ⟨h, -⟩ := h1
          rcases h with ⟨-, h⟩ | ⟨h, -⟩
          · exact h
          · exact absurd (hf.symm.trans h) (by decide), h1.2⟩
        clear HCK
        have HF := Lib.hid hf
        clear hf
        go_wp2_with (first
          | (go_at_call 122; (with_reducible refine HMANY.out.mono ?_); rintro e w1 ⟨rfl, hb1⟩; have HB1 := Lib.hid hb1; clear hb1)
          | (go_at_call 94; (refine (HCK2.out _ HB1.out).mono ?_); rintro e w2 ⟨rfl, hb2⟩; have HB2 := Lib.hid (HB1.out.trans (hb2.mono HB1.out.size)); clear hb2))
        go_end0
        exact ⟨.inl ⟨HF.out, rfl, HWD.out _ HB2.out⟩, HR.out.2.1.trans (Ch.of_below (Nat.le_trans hbw HR.out.2.1.size) HB2.out)⟩
      | false =>
        have HCK2 : Hid (∀ W, Below wr.heap.size wr W → Calls Tryz.prog 94 #[.pointer (some ⟨b, 0, none⟩)] W fun e w' => e = .panicked failP ∧ Below W.heap.size W w') := Lib.hid fun W hb => (HCK.out W hb).mono fun e w' h1 => ⟨by
          obtain ⟨h, -⟩ := h1
          rcases h with ⟨h, -⟩ | ⟨-, h⟩
          · exact absurd (hf.symm.trans h) (by decide)
          · exact h, h1.2⟩
        clear HCK
        have HF := Lib.hid hf
        clear hf
        go_wp2_with (first
          | (go_at_call 122; (with_reducible refine HMANY.out.mono ?_); rintro e w1 ⟨rfl, hb1⟩; have HB1 := Lib.hid hb1; clear hb1)
          | (go_at_call 94; (refine (HCK2.out _ HB1.out).mono ?_); rintro e w2 ⟨rfl, hb2⟩; have HB2 := Lib.hid (HB1.out.trans (hb2.mono HB1.out.size)); clear hb2))
        exact ⟨rfl, .inr ⟨HF.out, rfl⟩, HR.out.2.1.trans (Ch.of_below (Nat.le_trans hbw HR.out.2.1.size) HB2.out)⟩
end Go.Proofs
namespace Go.Proofs
open Go.RowKit Go.Shelf Go.Proofs.Sm
theorem restR_false {r : Nat} {s : S} (h : ∀ k, s.t + 1 ≤ k → k < r → ent s.a k s.t = 0) : s.restR r = false := by
  cases hb : s.restR r with
  | false => rfl
  | true => obtain ⟨i, h1, h2, h3⟩ := restR_iff.1 hb; exact absurd (h i h1 h2) h3
theorem restC_false {n : Nat} {s : S} (h : ∀ k, s.t + 1 ≤ k → k < n → ent s.a s.t k = 0) : s.restC n = false := by
  cases hb : s.restC n with
  | false => rfl
  | true => obtain ⟨i, h1, h2, h3⟩ := restC_iff.1 hb; exact absurd (h i h1 h2) h3
set_option maxRecDepth 100000 in
set_option maxHeartbeats 1000000 in
theorem rest101_any (base b r n : Nat) (w : World) (s : S) (hp : Piv r n s) (hr : r ≤ 100000) (_hn : n ≤ 100000) (hS : Wk 62 b base w s (.int .i64 (s.t : Int))) :
    Calls Tryz.prog 96 #[.pointer (some ⟨b, 0, none⟩), .agg #[.pointer (some ⟨b, 0, none⟩)]] w fun e w' => e = .returned (.bool (s.restR r)) ∧ Below w.heap.size w w' := by
  have hc3 : w.cell? ⟨b, 3, none⟩ = some (.int .i64 (s.t : Int)) := by obtain ⟨vs, bl, cs, hM⟩ := hS; exact hM.cells.2.2.2.1
  have hbl : b < w.heap.size := World.block_lt_of_cell? w _ hc3
  have HMANY : Hid (∀ W, Below w.heap.size w W → Calls Tryz.prog 119 #[.agg #[.pointer (some ⟨b, 0, none⟩)]] W fun e w' => e = .returned (.int .i64 (r : Int)) ∧ Below W.heap.size W w') := Lib.hid fun W hb => rmany125_any base b r n W _ _ hp.sh (hS.below hb)
  have HENT : Hid (∀ i, i < r → ∀ W, Below w.heap.size w W → Calls Tryz.prog 118 #[.agg #[.pointer (some ⟨b, 0, none⟩)], .int .i64 (i : Int)] W fun e w' => e = .returned (.int .i64 (ent s.a i s.t)) ∧ Below W.heap.size W w') := Lib.hid fun i hi W hb =>
    rentry124_any base b r n i W s hp.sh hi hp.ltn (hS.below hb)
  have HF := Lib.hid (@restR_false r s)
  have HTR : Hid (∀ i, s.t + 1 ≤ i → i < r → ent s.a i s.t ≠ 0 → s.restR r = true) := Lib.hid fun i h1 h2 h3 => restR_iff.2 ⟨i, h1, h2, h3⟩
  have ht := hp.ltr
  clear hS hp
  generalize s.restR r = R at *
  generalize s.t = t at *
  have ht0 : (0 : Int) ≤ (t : Int) := Int.natCast_nonneg _
  have ht1 : (t : Int) + 1 ≤ 100001 := by omega
  have hm1 := m_rmany ⟨b, 0, none⟩
  have hm2 := m_rentry ⟨b, 0, none⟩
  go_enter Tryz.func96, Tryz.ntmps96
  go_wp2_with fail
  go_loopw [5] (fun z wr => ∃ i : Nat, t + 1 ≤ i ∧ i ≤ r ∧ z = .int .i64 i ∧ Hid ((∀ k, t + 1 ≤ k → k < i → ent s.a k t = 0) ∧ Below w.heap.size w wr ∧ wr.heap[w.heap.size]? = some (.cells #[.pointer (some ⟨b, 0, none⟩)] 100 (0, 0)))) (fun z _ => r - (intOf z).toNat)
  case atStart => exact ⟨t + 1, by omega, by omega, by go_num, Lib.hid ⟨fun k h1 h2 => absurd h2 (by omega), (Below.refl _ _).alloc (Nat.le_refl _) _, heap_alloc_new w _⟩⟩
  case round =>
    obtain ⟨i, hi1, hi2, rfl, HR⟩ := hrel
    have hi0 : (0 : Int) ≤ (i : Int) := Int.natCast_nonneg _
    have hbx : wr.cell? ⟨w.heap.size, 0, none⟩ = some (.pointer (some ⟨b, 0, none⟩)) := by rw [cell_of_row _ _ _ _ _ _ HR.out.2.2]; rfl
    by_cases hlt : i < r
    · have hlt' : (i : Int) < (r : Int) := by omega
      have HE := Lib.hid (HENT.out i hlt)
      have HTR2 := Lib.hid (HTR.out i hi1 hlt)
      have HZ := Lib.hid HR.out.1
      generalize hx : ent s.a i t = x at *
      have HX := Lib.hid hx
      clear hx
      by_cases hx0 : x = 0
      · have hd : (x != 0) = false := by simpa using hx0
        have HX0 := Lib.hid hx0
        clear hx0
        go_wp2_with (first
          | (go_at_call 119; (refine (HMANY.out _ HR.out.2.1).mono ?_); rintro e w1 ⟨rfl, hb1⟩
             have HB1 := Lib.hid (HR.out.2.1.trans (hb1.mono HR.out.2.1.size))
             have HBX1 : Hid (w1.heap[w.heap.size]? = some (.cells #[.pointer (some ⟨b, 0, none⟩)] 100 (0, 0))) := Lib.hid ((hb1.block _ (Array.getElem?_eq_some_iff.1 HR.out.2.2).1).trans HR.out.2.2)
             have hbx1 : w1.cell? ⟨w.heap.size, 0, none⟩ = some (.pointer (some ⟨b, 0, none⟩)) := by rw [cell_of_row _ _ _ _ _ _ HBX1.out]; rfl
             clear hb1)
          | (go_at_call 118; (refine (HE.out _ HB1.out).mono ?_); rintro e w2 ⟨rfl, hb2⟩
             have HB2 := Lib.hid (HB1.out.trans (hb2.mono HB1.out.size))
             have HBX2 : Hid (w2.heap[w.heap.size]? = some (.cells #[.pointer (some ⟨b, 0, none⟩)] 100 (0, 0))) := Lib.hid ((hb2.block _ (Array.getElem?_eq_some_iff.1 HBX1.out).1).trans HBX1.out)
             clear hb2))
        go_roundw
        case rel => exact ⟨i + 1, by omega, by omega, by go_num, Lib.hid ⟨fun k h1 h2 => by
            by_cases e : k = i
            · subst e; rw [HX.out, HX0.out]
            · exact HZ.out k h1 (by omega), HB2.out, HBX2.out⟩⟩
        case measure => simp [intOf]; omega
      · have hd : (x != 0) = true := by simpa using hx0
        have HX0 := Lib.hid hx0
        clear hx0
        go_wp2_with (first
          | (go_at_call 119; (refine (HMANY.out _ HR.out.2.1).mono ?_); rintro e w1 ⟨rfl, hb1⟩
             have HB1 := Lib.hid (HR.out.2.1.trans (hb1.mono HR.out.2.1.size))
             have HBX1 : Hid (w1.heap[w.heap.size]? = some (.cells #[.pointer (some ⟨b, 0, none⟩)] 100 (0, 0))) := Lib.hid ((hb1.block _ (Array.getElem?_eq_some_iff.1 HR.out.2.2).1).trans HR.out.2.2)
             have hbx1 : w1.cell? ⟨w.heap.size, 0, none⟩ = some (.pointer (some ⟨b, 0, none⟩)) := by rw [cell_of_row _ _ _ _ _ _ HBX1.out]; rfl
             clear hb1)
          | (go_at_call 118; (refine (HE.out _ HB1.out).mono ?_); rintro e w2 ⟨rfl, hb2⟩
             have HB2 := Lib.hid (HB1.out.trans (hb2.mono HB1.out.size))
             clear hb2))
        go_ret
        exact ⟨ret_bool (HTR2.out HX0.out).symm, HB2.out⟩
    · obtain rfl : i = r := by omega
      have HZ := Lib.hid (HF.out HR.out.1)
      go_wp2_with (go_at_call 119; (refine (HMANY.out _ HR.out.2.1).mono ?_); rintro e w1 ⟨rfl, hb1⟩; have HB1 := Lib.hid (HR.out.2.1.trans (hb1.mono HR.out.2.1.size)); clear hb1)
      go_ret
      exact ⟨ret_bool HZ.out.symm, HB1.out⟩
set_option maxRecDepth 100000 in
set_option maxHeartbeats 1000000 in
theorem rest102_any (base b r n : Nat) (w : World) (s : S) (hp : Piv r n s) (_hr : r ≤ 100000) (hn : n ≤ 100000) (hS : Wk 62 b base w s (.int .i64 (s.t : Int))) :
    Calls Tryz.prog 97 #[.pointer (some ⟨b, 0, none⟩), .agg #[.pointer (some ⟨b, 0, none⟩)]] w fun e w' => e = .returned (.bool (s.restC n)) ∧ Below w.heap.size w w' := by
  have hc3 : w.cell? ⟨b, 3, none⟩ = some (.int .i64 (s.t : Int)) := by obtain ⟨vs, bl, cs, hM⟩ := hS; exact hM.cells.2.2.2.1
  have hbl : b < w.heap.size := World.block_lt_of_cell? w _ hc3
  have HMANY : Hid (∀ W, Below w.heap.size w W → Calls Tryz.prog 122 #[.agg #[.pointer (some ⟨b, 0, none⟩)]] W fun e w' => e = .returned (.int .i64 (n : Int)) ∧ Below W.heap.size W w') := Lib.hid fun W hb => cmany128_any base b r n W _ _ hp.sh (hS.below hb)
  have HENT : Hid (∀ i, i < n → ∀ W, Below w.heap.size w W → Calls Tryz.prog 121 #[.agg #[.pointer (some ⟨b, 0, none⟩)], .int .i64 (i : Int)] W fun e w' => e = .returned (.int .i64 (ent s.a s.t i)) ∧ Below W.heap.size W w') := Lib.hid fun i hi W hb =>
    centry127_any base b r n i W s hp.sh hi hp.ltr (hS.below hb)
  have HF := Lib.hid (@restC_false n s)
  have HTR : Hid (∀ i, s.t + 1 ≤ i → i < n → ent s.a s.t i ≠ 0 → s.restC n = true) := Lib.hid fun i h1 h2 h3 => restC_iff.2 ⟨i, h1, h2, h3⟩
  have ht := hp.ltn
  clear hS hp
  generalize s.restC n = R at *
  generalize s.t = t at *
  have ht0 : (0 : Int) ≤ (t : Int) := Int.natCast_nonneg _
  have ht1 : (t : Int) + 1 ≤ 100001 := by omega
  have hm1 := m_cmany ⟨b, 0, none⟩
  have hm2 := m_centry ⟨b, 0, none⟩
  go_enter Tryz.func97, Tryz.ntmps97
  go_wp2_with fail
  go_loopw [5] (fun z wr => ∃ i : Nat, t + 1 ≤ i ∧ i ≤ n ∧ z = .int .i64 i ∧ Hid ((∀ k, t + 1 ≤ k → k < i → ent s.a t k = 0) ∧ Below w.heap.size w wr ∧ wr.heap[w.heap.size]? = some (.cells #[.pointer (some ⟨b, 0, none⟩)] 102 (0, 0)))) (fun z _ => n - (intOf z).toNat)
  case atStart => exact ⟨t + 1, by omega, by omega, by go_num, Lib.hid ⟨fun k h1 h2 => absurd h2 (by omega), (Below.refl _ _).alloc (Nat.le_refl _) _, heap_alloc_new w _⟩⟩
  case round =>
    obtain ⟨i, hi1, hi2, rfl, HR⟩ := hrel
    have hi0 : (0 : Int) ≤ (i : Int) := Int.natCast_nonneg _
    have hbx : wr.cell? ⟨w.heap.size, 0, none⟩ = some (.pointer (some ⟨b, 0, none⟩)) := by rw [cell_of_row _ _ _ _ _ _ HR.out.2.2]; rfl
    by_cases hlt : i < n
    · have hlt' : (i : Int) < (n : Int) := by omega
      have HE := Lib.hid (HENT.out i hlt)
      have HTR2 := Lib.hid (HTR.out i hi1 hlt)
      have HZ := Lib.hid HR.out.1
      generalize hx : ent s.a t i = x at *
      have HX := Lib.hid hx
      clear hx
      by_cases hx0 : x = 0
      · have hd : (x != 0) = false := by simpa using hx0
        have HX0 := Lib.hid hx0
        clear hx0
        go_wp2_with (first
          | (go_at_call 122; (refine (HMANY.out _ HR.out.2.1).mono ?_); rintro e w1 ⟨rfl, hb1⟩
             have HB1 := Lib.hid (HR.out.2.1.trans (hb1.mono HR.out.2.1.size))
             have HBX1 : Hid (w1.heap[w.heap.size]? = some (.cells #[.pointer (some ⟨b, 0, none⟩)] 102 (0, 0))) := Lib.hid ((hb1.block _ (Array.getElem?_eq_some_iff.1 HR.out.2.2).1).trans HR.out.2.2)
             have hbx1 : w1.cell? ⟨w.heap.size, 0, none⟩ = some (.pointer (some ⟨b, 0, none⟩)) := by rw [cell_of_row _ _ _ _ _ _ HBX1.out]; rfl
             clear hb1)
          | (go_at_call 121; (refine (HE.out _ HB1.out).mono ?_); rintro e w2 ⟨rfl, hb2⟩
             have HB2 := Lib.hid (HB1.out.trans (hb2.mono HB1.out.size))
             have HBX2 : Hid (w2.heap[w.heap.size]? = some (.cells #[.pointer (some ⟨b, 0, none⟩)] 102 (0, 0))) := Lib.hid ((hb2.block _ (Array.getElem?_eq_some_iff.1 HBX1.out).1).trans HBX1.out)
             clear hb2))
        go_roundw
        case rel => exact ⟨i + 1, by omega, by omega, by go_num, Lib.hid ⟨fun k h1 h2 => by
            by_cases e : k = i
            · subst e; rw [HX.out, HX0.out]
            · exact HZ.out k h1 (by omega), HB2.out, HBX2.out⟩⟩
        case measure => simp [intOf]; omega
      · have hd : (x != 0) = true := by simpa using hx0
        have HX0 := Lib.hid hx0
        clear hx0
        go_wp2_with (first
          | (go_at_call 122; (refine (HMANY.out _ HR.out.2.1).mono ?_); rintro e w1 ⟨rfl, hb1⟩
             have HB1 := Lib.hid (HR.out.2.1.trans (hb1.mono HR.out.2.1.size))
             have HBX1 : Hid (w1.heap[w.heap.size]? = some (.cells #[.pointer (some ⟨b, 0, none⟩)] 102 (0, 0))) := Lib.hid ((hb1.block _ (Array.getElem?_eq_some_iff.1 HR.out.2.2).1).trans HR.out.2.2)
             have hbx1 : w1.cell? ⟨w.heap.size, 0, none⟩ = some (.pointer (some ⟨b, 0, none⟩)) := by rw [cell_of_row _ _ _ _ _ _ HBX1.out]; rfl
             clear hb1)
          | (go_at_call 121; (refine (HE.out _ HB1.out).mono ?_); rintro e w2 ⟨rfl, hb2⟩
             have HB2 := Lib.hid (HB1.out.trans (hb2.mono HB1.out.size))
             clear hb2))
        go_ret
        exact ⟨ret_bool (HTR2.out HX0.out).symm, HB2.out⟩
    · obtain rfl : i = n := by omega
      have HZ := Lib.hid (HF.out HR.out.1)
      go_wp2_with (go_at_call 122; (refine (HMANY.out _ HR.out.2.1).mono ?_); rintro e w1 ⟨rfl, hb1⟩; have HB1 := Lib.hid (HR.out.2.1.trans (hb1.mono HR.out.2.1.size)); clear hb1)
      go_ret
      exact ⟨ret_bool HZ.out.symm, HB1.out⟩
end Go.Proofs
namespace Go.Proofs
open Go.RowKit Go.Shelf Go.Proofs.Sm
/-- the function that carries out a step, bound to the state at b -/
def stepV (b : Nat) : Option Ph → Value
  | none => .nilFunc
  | some .choose => .func (.func 55) #[.pointer (some ⟨b, 0, none⟩)] #[]
  | some .down => .func (.func 76) #[.pointer (some ⟨b, 0, none⟩)] #[]
  | some .across => .func (.func 87) #[.pointer (some ⟨b, 0, none⟩)] #[]
  | some .spread => .func (.func 98) #[.pointer (some ⟨b, 0, none⟩)] #[]
  | some .sign => .func (.func 101) #[.pointer (some ⟨b, 0, none⟩)] #[]
/-- a step that goes on -/
def StepYes (b base : Nat) (p : Option Ph) (s : S) (w : World) (e : Ending) (w' : World) : Prop := e = .returned (stepV b p) ∧ Wk 62 b base w' s (.int .i64 (s.t : Int)) ∧ Ch base w w'
/-- a step that fails -/
def StepNo (base : Nat) (w : World) (e : Ending) (w' : World) : Prop := e = .panicked failP ∧ Ch base w w'
section
variable (base b r n : Nat) (w : World) (s : S) (hr : r ≤ 100000) (hn : n ≤ 100000) (hS : Wk 62 b base w s (.int .i64 (s.t : Int))) (hbw : base ≤ w.heap.size)
include hr hn hS hbw
theorem down73_yes (hp : Piv r n s) (hf : (s.down r).fine = true) : Calls Tryz.prog 76 #[.pointer (some ⟨b, 0, none⟩)] w (StepYes b base (some .across) (s.down r) w) := by
  have ht : (s.down r).t = s.t := (down_at hp).t
  have HC : Hid (Calls Tryz.prog 86 #[.pointer (some ⟨b, 0, none⟩), .agg #[.pointer (some ⟨b, 0, none⟩)]] w fun e w' => e = .returned (.tuple #[]) ∧ Wk 62 b base w' (s.down r) (.int .i64 ((s.down r).t : Int)) ∧ Ch base w w') :=
    Lib.hid ((clear91_any base b r n w s hp hr hn hS hbw).mono fun e w' h => by
      obtain ⟨h1, h2⟩ := h
      rcases h1 with ⟨-, h3, h4⟩ | ⟨h3, -⟩
      · exact ⟨h3, by rw [ht]; exact h4, h2⟩
      · exact absurd (hf.symm.trans h3) (by decide))
  clear hS hp hf ht
  go_enter Tryz.func76, Tryz.ntmps76
  go_wp2_with (go_at_call 86; (refine HC.out.mono ?_); rintro e w1 ⟨rfl, h1, h2⟩; have H1 := Lib.hid h1; have H2 := Lib.hid h2; clear h1 h2)
  go_ret
  exact ⟨rfl, H1.out, H2.out⟩
theorem down73_no (hp : Piv r n s) (hf : (s.down r).fine = false) : Calls Tryz.prog 76 #[.pointer (some ⟨b, 0, none⟩)] w (StepNo base w) := by
  have HC : Hid (Calls Tryz.prog 86 #[.pointer (some ⟨b, 0, none⟩), .agg #[.pointer (some ⟨b, 0, none⟩)]] w fun e w' => e = .panicked failP ∧ Ch base w w') :=
    Lib.hid ((clear91_any base b r n w s hp hr hn hS hbw).mono fun e w' h => by
      obtain ⟨h1, h2⟩ := h
      rcases h1 with ⟨h3, -⟩ | ⟨-, h3⟩
      · exact absurd (h3.symm.trans hf) (by decide)
      · exact ⟨h3, h2⟩)
  clear hS hp hf
  go_enter Tryz.func76, Tryz.ntmps76
  go_wp2_with (go_at_call 86; (refine HC.out.mono ?_); rintro e w1 ⟨rfl, h2⟩; have H2 := Lib.hid h2; clear h2)
  exact ⟨rfl, rfl, H2.out⟩
theorem across92_no (hp : Acr r n s) (hf : (s.across n).fine = false) : Calls Tryz.prog 87 #[.pointer (some ⟨b, 0, none⟩)] w (StepNo base w) := by
  have HC : Hid (Calls Tryz.prog 95 #[.pointer (some ⟨b, 0, none⟩), .agg #[.pointer (some ⟨b, 0, none⟩)]] w fun e w' => e = .panicked failP ∧ Ch base w w') :=
    Lib.hid ((clear100_any base b r n w s hp hr hn hS hbw).mono fun e w' h => by
      obtain ⟨h1, h2⟩ := h
      rcases h1 with ⟨h3, -⟩ | ⟨-, h3⟩
      · exact absurd (h3.symm.trans hf) (by decide)
      · exact ⟨h3, h2⟩)
  clear hS hp hf
  go_enter Tryz.func87, Tryz.ntmps87
  go_wp2_with (go_at_call 95; (refine HC.out.mono ?_); rintro e w1 ⟨rfl, h2⟩; have H2 := Lib.hid h2; clear h2)
  exact ⟨rfl, rfl, H2.out⟩
set_option maxRecDepth 100000 in
theorem across92_yes (hp : Acr r n s) (hf : (s.across n).fine = true) : Calls Tryz.prog 87 #[.pointer (some ⟨b, 0, none⟩)] w (StepYes b base (some (if (s.across n).restR r || (s.across n).restC n then .choose else .spread)) (s.across n) w) := by
  have hP2 := (pi_across hp hf).1.toPiv
  have ht : (s.across n).t = s.t := (across_at hp.toPiv).t
  have HC : Hid (Calls Tryz.prog 95 #[.pointer (some ⟨b, 0, none⟩), .agg #[.pointer (some ⟨b, 0, none⟩)]] w fun e w' => e = .returned (.tuple #[]) ∧ Wk 62 b base w' (s.across n) (.int .i64 ((s.across n).t : Int)) ∧ Ch base w w') :=
    Lib.hid ((clear100_any base b r n w s hp hr hn hS hbw).mono fun e w' h => by
      obtain ⟨h1, h2⟩ := h
      rcases h1 with ⟨-, h3, h4⟩ | ⟨h3, -⟩
      · exact ⟨h3, by rw [ht]; exact h4, h2⟩
      · exact absurd (hf.symm.trans h3) (by decide))
  have HR : Hid (∀ W, Wk 62 b base W (s.across n) (.int .i64 ((s.across n).t : Int)) → Calls Tryz.prog 96 #[.pointer (some ⟨b, 0, none⟩), .agg #[.pointer (some ⟨b, 0, none⟩)]] W fun e w' => e = .returned (.bool ((s.across n).restR r)) ∧ Below W.heap.size W w') := Lib.hid fun W h => rest101_any base b r n W _ hP2 hr hn h
  have HC2 : Hid (∀ W, Wk 62 b base W (s.across n) (.int .i64 ((s.across n).t : Int)) → Calls Tryz.prog 97 #[.pointer (some ⟨b, 0, none⟩), .agg #[.pointer (some ⟨b, 0, none⟩)]] W fun e w' => e = .returned (.bool ((s.across n).restC n)) ∧ Below W.heap.size W w') := Lib.hid fun W h => rest102_any base b r n W _ hP2 hr hn h
  clear hS hp hf ht hP2
  generalize s.across n = s2 at *
  generalize s2.restR r = f1 at *
  generalize s2.restC n = f2 at *
  cases f1 with
  | true =>
    go_enter Tryz.func87, Tryz.ntmps87
    go_wp2_with (first
      | (go_at_call 95; (refine HC.out.mono ?_); rintro e w1 ⟨rfl, h1, h2⟩; have H1 := Lib.hid h1; have H2 := Lib.hid h2; clear h1 h2)
      | (go_at_call 96; (refine (HR.out _ H1.out).mono ?_); rintro e w2 ⟨rfl, h3⟩; have H3 := Lib.hid h3; clear h3))
    go_ret
    exact ⟨rfl, H1.out.below H3.out, H2.out.trans (Ch.of_below (Nat.le_trans hbw H2.out.size) H3.out)⟩
  | false =>
    cases f2 with
    | true =>
      go_enter Tryz.func87, Tryz.ntmps87
      go_wp2_with (first
        | (go_at_call 95; (refine HC.out.mono ?_); rintro e w1 ⟨rfl, h1, h2⟩; have H1 := Lib.hid h1; have H2 := Lib.hid h2; clear h1 h2)
        | (go_at_call 96; (refine (HR.out _ H1.out).mono ?_); rintro e w2 ⟨rfl, h3⟩; have H3 := Lib.hid h3; clear h3)
        | (go_at_call 97; (refine (HC2.out _ (H1.out.below H3.out)).mono ?_); rintro e w3 ⟨rfl, h4⟩; have H4 := Lib.hid (H3.out.trans (h4.mono H3.out.size)); clear h4))
      go_ret
      exact ⟨rfl, H1.out.below H4.out, H2.out.trans (Ch.of_below (Nat.le_trans hbw H2.out.size) H4.out)⟩
    | false =>
      go_enter Tryz.func87, Tryz.ntmps87
      go_wp2_with (first
        | (go_at_call 95; (refine HC.out.mono ?_); rintro e w1 ⟨rfl, h1, h2⟩; have H1 := Lib.hid h1; have H2 := Lib.hid h2; clear h1 h2)
        | (go_at_call 96; (refine (HR.out _ H1.out).mono ?_); rintro e w2 ⟨rfl, h3⟩; have H3 := Lib.hid h3; clear h3)
        | (go_at_call 97; (refine (HC2.out _ (H1.out.below H3.out)).mono ?_); rintro e w3 ⟨rfl, h4⟩; have H4 := Lib.hid (H3.out.trans (h4.mono H3.out.size)); clear h4))
      go_ret
      exact ⟨rfl, H1.out.below H4.out, H2.out.trans (Ch.of_below (Nat.le_trans hbw H2.out.size) H4.out)⟩
end
end Go.Proofs
namespace Go.Proofs
open Go.RowKit Go.Shelf Go.Proofs.Sm
theorem Wk.look {T b base r n : Nat} {W : World} {s : S} {z : Value} {i j : Nat} (hW : Wk T b base W s z) (hs : Shape r n s) (hi : i < r) (hj : j < n) : ∃ g d bt ct, W.cell? ⟨b, 0, none⟩ = some (.slice (some ⟨g, 0, none⟩) r d) ∧ W.cell? ⟨b, 3, none⟩ = some z ∧ W.cell? ⟨g, i, none⟩ = some (.slice (some ⟨bt, 0, none⟩) n ct) ∧ W.cell? ⟨bt, j, none⟩ = some (.int .i64 (ent s.a i j)) ∧ n ≤ ct ∧ ct ≤ 9223372036854775807 ∧ r ≤ d ∧ d ≤ 9223372036854775807 := by
  obtain ⟨vs, bl, cs, hM⟩ := hW
  obtain ⟨c0, c1, c2, c3, c4⟩ := hM.cells
  have hl : (s.mat 0).length = r := hs.ra.1
  have hrl : ((s.mat 0).getD i []).length = n := rect_row hs.ra hi
  obtain ⟨g, d, hv, h1, -, -⟩ := hM.row_at (k := 0) (i := i) (by omega) (by rw [hl]; exact hi)
  obtain ⟨h2, -⟩ := hM.ent_at (k := 0) (i := i) (j := j) (by omega) (by rw [hl]; exact hi) (by rw [hrl]; exact hj)
  obtain ⟨-, -, h3, h4⟩ := hM.row 0 i (by omega) (by rw [hl]; exact hi)
  obtain ⟨A, c, hf, h5, h6⟩ := hM.form (k := 0) (by omega)
  rw [hrl] at h1 h3
  rw [hv, hl] at c0
  rw [hv, hl] at hf
  rw [hl] at h5
  have hcd : d = c := by injection hf
  subst hcd
  exact ⟨g, d, bl 0 i, cs 0 i, c0, c3, h1, h2, h3, h4, h5, h6⟩
theorem Wk.cell3 {T b base : Nat} {W : World} {s : S} {z : Value} (hW : Wk T b base W s z) : W.cell? ⟨b, 3, none⟩ = some z ∧ W.frozen? ⟨b, 3, none⟩ = false ∧ base ≤ b ∧ ∃ C, W.heap[b]? = some (.cells C T (0, 0)) := by
  obtain ⟨vs, bl, cs, hM⟩ := hW
  exact ⟨hM.cells.2.2.2.1, hM.cells.2.2.2.2 3, hM.bb, _, hM.box⟩
theorem Wk.set3 {T b base : Nat} {W : World} {s s' : S} {z : Value} (hW : Wk T b base W s z) (y : Value) (ha : s'.a = s.a) (hu : s'.u = s.u) (hv : s'.v = s.v) : Wk T b base (W.setCell ⟨b, 3, none⟩ y) s' y := by
  obtain ⟨vs, bl, cs, hM⟩ := hW
  exact ⟨vs, bl, cs, (hM.set3 y).of ha hu hv⟩
set_option maxRecDepth 100000 in
set_option maxHeartbeats 1000000 in
theorem sign107_any (base b r n : Nat) (w : World) (s : S) (hr : r ≤ 100000) (hn : n ≤ 100000) (hS : Wk 62 b base w s (.int .i64 (s.t : Int))) (hbw : base ≤ w.heap.size) (hp : Piv r n s) :
    Calls Tryz.prog 101 #[.pointer (some ⟨b, 0, none⟩)] w (StepYes b base (some .choose) { s.sign with t := s.t + 1 } w) := by
  obtain ⟨g, d, bt, ct, k1, k2, k3, k4, k5, k6, k7, k8⟩ := hS.look hp.sh hp.ltr hp.ltn
  have hbl : b < w.heap.size := World.block_lt_of_cell? w _ k1
  have ht := hp.ltr
  have htn := hp.ltn
  have h3 := hS.cell3
  by_cases hneg : ent s.a s.t s.t < 0
  · have hsg : s.sign = s.addR s.t s.t (-2) := by unfold S.sign; rw [if_pos hneg]
    rw [hsg]
    have hfit : ∀ m : Mat, (∀ i j, -1000000000 ≤ ent m i j ∧ ent m i j ≤ 1000000000) → FitR m s.t s.t (-2) := fun m h j => by
      have := h s.t j
      unfold In64
      omega
    have HADD : Hid (∀ W, Below w.heap.size w W → Calls Tryz.prog 100 #[.agg #[.pointer (some ⟨b, 0, none⟩)], .int .i64 (s.t : Int), .int .i64 (s.t : Int), .int .i64 (-2)] W fun e w' => e = .returned (.tuple #[]) ∧ Wk 62 b base w' (s.addR s.t s.t (-2)) (.int .i64 (s.t : Int)) ∧ Ch base W w') := Lib.hid fun W hb =>
      radd106_any base b s.t s.t r n (-2) W s _ hp.sh ht ht (by omega) (by omega) (hS.below hb) (Nat.le_trans hbw hb.size) (hfit _ hp.toBase.bda) (hfit _ hp.toBase.bdu)
    clear hS hp hsg hfit h3
    generalize ent s.a s.t s.t = z at *
    generalize s.addR s.t s.t (-2) = s2 at *
    generalize s.t = t at *
    have ht0 : (0 : Int) ≤ (t : Int) := Int.natCast_nonneg _
    have htr : (t : Int) < (r : Int) := by omega
    have htn' : (t : Int) < (n : Int) := by omega
    have htb : (t : Int) ≤ 100000 := by omega
    have hd1 : decide (z < 0) = true := decide_eq_true hneg
    have HS6 : Hid (∀ m, (w.drewN m).drew.cell? ⟨b, 3, none⟩ = some (.int .i64 (t : Int))) := Lib.hid fun m => k2
    go_enter Tryz.func101, Tryz.ntmps101
    go_wp2_with fail
    go_quiet (fail)
    go_wp2_with fail
    go_region_held3 (fun W => W.cell? ⟨b, 3, none⟩ = some (.int .i64 (t : Int))) (first | (with_reducible exact HS7.out) | (with_reducible exact HS6.out _) | go_keep)
      ((go_at_call 100; (refine (HADD.out _ (below_drew (below_drewN (Below.refl _ _) _))).mono ?_); rintro e w3 ⟨rfl, hw3, hch⟩; have HW3 := Lib.hid hw3; have HCH3 := Lib.hid (((Ch.refl base w).drewN _).drew.trans hch); have HS7 := Lib.hid hw3.cell3.1; clear hch))
    obtain ⟨j1, j2, j3, C, j4⟩ := HW3.out.cell3
    have HB := Lib.hid (HCH3.out.setCell j3 j4 (.inr (.inr (.inl rfl))) 3 (.int .i64 ((t : Int) + 1)))
    clear j3 j4 k2 hw3
    go_wp2_with fail
    go_ret
    exact ⟨rfl, HW3.out.set3 _ rfl rfl rfl, HB.out⟩
  · have hsg : s.sign = s := by unfold S.sign; rw [if_neg hneg]
    rw [hsg]
    have HW := Lib.hid hS
    have hd1 : decide (ent s.a s.t s.t < 0) = false := decide_eq_false hneg
    obtain ⟨j1, j2, j3, C, j4⟩ := h3
    have HB : Hid (∀ m, Ch base w ((w.drewN m).setCell ⟨b, 3, none⟩ (.int .i64 ((s.t : Int) + 1)))) := Lib.hid fun m => ((Ch.refl base w).drewN m).setCell j3 j4 (.inr (.inr (.inl rfl))) 3 _
    have HN : Hid (∀ m, Wk 62 b base ((w.drewN m).setCell ⟨b, 3, none⟩ (.int .i64 ((s.t : Int) + 1))) { s with t := s.t + 1 } (.int .i64 ((s.t : Int) + 1))) := Lib.hid fun m => (hS.drewN m).set3 _ rfl rfl rfl
    clear hS hp hsg j3 j4 hneg
    generalize ent s.a s.t s.t = z at *
    generalize s.t = t at *
    have ht0 : (0 : Int) ≤ (t : Int) := Int.natCast_nonneg _
    have htr : (t : Int) < (r : Int) := by omega
    have htn' : (t : Int) < (n : Int) := by omega
    have htb : (t : Int) ≤ 100000 := by omega
    go_enter Tryz.func101, Tryz.ntmps101
    go_wp2_with fail
    go_quiet (fail)
    go_wp2_with fail
    go_ret
    exact ⟨rfl, HN.out _, HB.out _⟩
end Go.Proofs
