/- The reference's Smith; The reference's Group; The reference's Abelian; Prime powers, plainly; prime.divides and prime.Is. -/
import Derived.Test.YthfachbkcmifbaaGreatGrCS9
import Derived.Test.YthfachbkcmifbaaGreatGrCS15
import Derived.Test.YthfachbkcmifbaaGreatGrCS8
import Derived.Deep.RegionHeld3
import Derived.Test.YthfachbkcmifbaaGreatGrCS2
import Derived.Test.YthfachbkcmifbaaGreatGrCS3
namespace Go.Proofs
open Go.RowKit Go.Shelf Go.Proofs.Sm
theorem smith12_no (w : World) (n : Int) (v : Value) (l : List (List Int)) (h : Tab w v l) (hc : checkE n l ≠ 0) : Calls Tryz.prog 45 #[.int .i64 n, v] w (SmithPost [] [] [] (checkE n l) w) := by
  have HC := Lib.hid (check16_any w n v l h)
  have hd : (checkE n l != 0) = true := by simpa using hc
  obtain ⟨A0, c0, rfl, -, -, -⟩ := h.open_
  clear h hc
  generalize checkE n l = z at *
  go_enter Tryz.func45, Tryz.ntmps45
  go_wp2_with (go_at_call 58; (refine HC.out.mono ?_); rintro e w' ⟨rfl, q, rfl⟩)
  exact bodyPost_ret (v := .tuple #[.slice none 0 0, .slice none 0 0, .slice none 0 0, .int .i64 z]) (by simp [results, Tryz.results45, go_sem]) rfl ⟨⟨_, _, _, rfl, intsAt_nil, tab_nil, tab_nil⟩, below_drewN (Below.refl _ _) _⟩
set_option maxRecDepth 100000 in
set_option maxHeartbeats 1000000 in
theorem smith12_over (w : World) (n : Nat) (v : Value) (l : List (List Int)) (h : Tab w v l) (hc : checkE n l = 0) (o : Option S) (ho : Out n l o) : Calls Tryz.prog 45 #[.int .i64 (n : Int), v] w (SmithPostP o w) := by
  have hch := check16_any w n v l h
  rw [hc] at hch
  obtain ⟨hn1, hn2, hl, hval⟩ := valid_of_check hc
  rw [Int.toNat_natCast] at hval
  have HC := Lib.hid hch
  have HV := Lib.hid hval
  have HT := Lib.hid h
  obtain ⟨A0, c0, rfl, hc1, hc2, hcc⟩ := h.open_
  have HIDN : Hid (∀ W, Calls Tryz.prog 59 #[.int .i64 (n : Int)] W (IdPost n W)) := Lib.hid fun W => identity36_any W n (by omega)
  have HCC := Lib.hid hcc
  clear h hch hval hcc hc
  obtain ⟨r, hr⟩ : ∃ r, r = l.length := ⟨_, rfl⟩
  rw [← hr] at hl hc1 HCC HC HT ⊢
  have HR := Lib.hid hr
  clear hr
  have HIDR : Hid (∀ W, Calls Tryz.prog 59 #[.int .i64 (r : Int)] W (IdPost r W)) := Lib.hid fun W => identity36_any W r (by omega)
  have hr0 : (0 : Int) ≤ (r : Int) := Int.natCast_nonneg _
  have hn0 : (0 : Int) ≤ (n : Int) := Int.natCast_nonneg _
  have hrb : (r : Int) ≤ 100 := by omega
  go_enter Tryz.func45, Tryz.ntmps45
  go_wp2_with (first
    | (go_at_call 58; (refine HC.out.mono ?_); rintro e w' ⟨rfl, q, rfl⟩)
    | (go_at_call 59; (with_reducible refine (HIDR.out _).mono ?_); rintro e w1 ⟨Au, cu, blu, csu, rfl, hmu, hb1⟩; have HMU := Lib.hid hmu; have HB1 := Lib.hid hb1; clear hmu hb1)
    | (go_at_call 59; (with_reducible refine (HIDN.out _).mono ?_); rintro e w2 ⟨Av, cv, blv, csv, rfl, hmv, hb2⟩; have HMV := Lib.hid hmv; have HB2 := Lib.hid hb2; clear hmv hb2))
  have hbase : w.heap.size ≤ w2.heap.size := Nat.le_trans HB1.out.size HB2.out.size
  have hst := WkM.start70 (r := r) (n := n) (base := w.heap.size) (base2 := w1.heap.size) hbase (HMU.out.keep HB2.out) HB1.out.size ⟨fun i hi => HMU.out.lt.1 i (by rw [idM_length]; exact hi), fun g hg => (HMU.out.lt.2 g hg).2⟩ HMV.out
  have hbw0 : Below w.heap.size w (w2.alloc (.cells #[.slice none 0 0, .slice Au r cu, .slice Av n cv, .bool false] 86)) := ((below_drewN (Below.refl w.heap.size w) q).trans (HB1.out.trans (HB2.out.mono HB1.out.size))).alloc hbase _
  have HST := Lib.hid (And.intro hst hbw0)
  clear hst hbw0 hbase
  generalize hb : w2.heap.size = b at *
  generalize w2.alloc (.cells #[.slice none 0 0, .slice Au r cu, .slice Av n cv, .bool false] 86) = w3 at *
  clear hb
  go_loopw [10] (fun z wr => ∃ k : Nat, k ≤ r ∧ z = .int .i64 k ∧ Hid (Wk 86 b w.heap.size wr ⟨l.take k, idM r, idM n, 0⟩ (.bool false) ∧ Below w.heap.size w wr)) (fun z _ => r - (intOf z).toNat)
  case atStart => exact ⟨0, by omega, rfl, Lib.hid ⟨HST.out.1, HST.out.2⟩⟩
  case round =>
    obtain ⟨k, hk, rfl, HQ⟩ := hrel
    have hk0 : (0 : Int) ≤ (k : Int) := Int.natCast_nonneg _
    by_cases hlt : k < r
    · have hlt' : (k : Int) < (r : Int) := by omega
      obtain ⟨bo, oo, rfl, hcells⟩ := HCC.out (by omega)
      obtain ⟨u, hu, hI⟩ := hcells k hlt
      have hu2 := (HQ.out.2.cell (p := ⟨bo, oo + k, none⟩) (World.block_lt_of_cell? w _ hu)).trans hu
      have hrow : (l.getD k []).length = n := HV.out.row _ (by rw [List.getD_eq_getElem?_getD, List.getElem?_eq_getElem (by rw [← HR.out]; exact hlt)]; exact List.getElem_mem _)
      obtain ⟨A5, c5, rfl, e1, e2, -⟩ := hI.open_
      rw [hrow] at e1 hu2
      have htk := take_getD l (k := k) (by rw [← HR.out]; exact hlt)
      have hlen : (l.take k).length = k := by rw [List.length_take]; have := HR.out; omega
      have HCL : Hid (∀ W, Below wr.heap.size wr W → Calls Tryz.prog 60 #[.slice A5 n c5] W fun e w' => ∃ g c, e = .returned (.slice (some ⟨g, 0, none⟩) n c) ∧ XsAt w' g (l.getD k []) ∧ W.heap.size ≤ g ∧ n ≤ c ∧ c ≤ 9223372036854775807 ∧ Below W.heap.size W w') := Lib.hid fun W hb => by
        have h := own37_any W (.slice A5 (l.getD k []).length c5) (l.getD k []) (kept_ints.below hI (HQ.out.2.trans (hb.mono HQ.out.2.size))) (by omega)
        rw [hrow] at h
        refine h.mono fun e w' ⟨A, c, h1, h2, h3⟩ => ?_
        rw [← hrow] at h2
        obtain ⟨g, rfl, h4, h5, h6, h7⟩ := owns_xs h2 (by omega)
        rw [hrow] at h6
        exact ⟨g, c, h1, h4, h5, h6, h7, h3⟩
      obtain ⟨vs, bl, cs, hM⟩ := HQ.out.1
      obtain ⟨d0, -, -, -, d4⟩ := hM.cells
      obtain ⟨Aa, ca, hva, ha1, ha2⟩ := hM.form (k := 0) (by omega)
      have hl0 : (S.mat ⟨l.take k, idM r, idM n, 0⟩ 0).length = k := hlen
      rw [hl0] at hva
      rw [hva] at d0
      have HPUSH : Hid (∀ W g c, Below wr.heap.size wr W → XsAt W g (l.getD k []) → wr.heap.size ≤ g → n ≤ c → c ≤ 9223372036854775807 → ∃ A' c' w', (Builtin.append_ #[40, 40] 40 #[.slice Aa k ca, .slice (some ⟨W.heap.size, 0, none⟩) 1 1]).run Tryz.prog (W.alloc (.cells #[.slice (some ⟨g, 0, none⟩) n c] 25)) = .ok (.slice A' (k + 1) c') w' ∧ (∃ u, w'.cell? ⟨b, 0, none⟩ = some u) ∧ w'.frozen? ⟨b, 0, none⟩ = false ∧ Wk 86 b w.heap.size (w'.setCell ⟨b, 0, none⟩ (.slice A' (k + 1) c')) ⟨l.take (k + 1), idM r, idM n, 0⟩ (.bool false) ∧ Below w.heap.size w (w'.setCell ⟨b, 0, none⟩ (.slice A' (k + 1) c'))) := Lib.hid fun W g c hb hx hg hc1 hc2 => by
        have h := (hM.below hb).push (g := g) (c := c) (xs := l.getD k []) (Nat.le_trans HQ.out.2.size hb.size) hx (Nat.le_trans HQ.out.2.size hg) (by rw [hrow]; exact hc1) hc2 (fun k' i hk' hi e => by
          have h1 := (hM.row k' i hk' hi).2.1.lt
          omega) (by show (l.take k).length ≤ 1000000; omega)
        obtain ⟨A', c', w', h1, h2, h3, h4, h5⟩ := h
        have hlen' : (S.mk (l.take k) (idM r) (idM n) 0).a.length = k := hlen
        rw [hva, hrow, hlen'] at h1
        rw [hlen'] at h4 h5
        refine ⟨A', c', w', h1, h2, h3, ?_, HQ.out.2.trans ((hb.mono HQ.out.2.size).trans h5)⟩
        rw [← htk]
        exact h4
      clear hM hva ha1 ha2 hl0 hcells hu hI hrow htk hlen
      go_wp2_with fail
      go_region_law (first
        | (go_simp
           go_at_call 60
           (refine (HCL.out _ (below_drew (Below.refl _ _))).mono ?_)
           rintro e w4 ⟨g, c, rfl, hx, hg, hc3, hc4, hb4⟩
           obtain ⟨A', c', w5, hR5, ⟨u5, hu5⟩, hf5, hWk5, hB5⟩ := HPUSH.out w4 g c ((below_drew (Below.refl _ _)).trans hb4) hx hg hc3 hc4
           have hd4 : w4.cell? ⟨b, 0, none⟩ = some (.slice Aa k ca) := (((below_drew (Below.refl wr.heap.size wr)).trans hb4).cell (p := ⟨b, 0, none⟩) (World.block_lt_of_cell? wr _ d0)).trans d0
           have hbl4 : b < w4.heap.size := World.block_lt_of_cell? w4 _ hd4
           have HR5 := Lib.hid hR5
           have HF5 := Lib.hid (And.intro hWk5 hB5)
           clear hx hg hc3 hc4 hb4 hR5 hWk5 hB5)
        | (refine step_sel 42 ?_
           refine step_val rfl (r_app (.tmp 35) (.tmp 41) 40 rfl rfl rfl HR5.out) ?_))
      all_goals
        go_wp2_with fail
        go_roundw
        case rel => exact ⟨k + 1, by omega, by go_num, Lib.hid (by first | exact HF5.out | exact ⟨HF5.out.1.drewN 1, below_drew HF5.out.2⟩)⟩
        case measure => simp [intOf]; omega
    · obtain rfl : k = r := by omega
      have htake : (S.mk (l.take k) (idM k) (idM n) 0) = S.start n l := by
        rw [HR.out, List.take_length]; rfl
      obtain ⟨m, hm⟩ := ho
      have hbase := base_start HV.out
      have HEND : Hid (∀ s, o = some s → Sm.End l.length n s) := Lib.hid fun s hs => out_end HV.out ⟨m, by rw [hm, hs]⟩
      rw [← HR.out] at hm hbase HEND
      have HW0 : Hid (HeadS b w.heap.size k n o 0 wr ∧ DvAt b w.heap.size wr none 0 0 [] ∧ (∀ τ, o = some τ → ([] : List Int) = (diagOf τ).take 0) ∧ Below w.heap.size w wr) := Lib.hid ⟨.inl ⟨S.start n l, m, rfl, hbase, hm, by rw [← htake]; exact HQ.out.1⟩, DvAt.nil _ _ _, fun _ _ => rfl, HQ.out.2⟩
      clear htake hm hbase HCC HQ HC HIDN HIDR
      go_wp2_with fail
      go_loopw [4, 11] (fun zd z wr => ∃ (t : Nat) (A : Option Addr) (c : Nat) (xs : List Int), t ≤ k ∧ t ≤ n ∧ z = .int .i64 t ∧ zd = .slice A t c ∧ Hid (HeadS b w.heap.size k n o t wr ∧ DvAt b w.heap.size wr A t c xs ∧ (∀ τ, o = some τ → xs = (diagOf τ).take t) ∧ Below w.heap.size w wr)) (fun _ z _ => k - (intOf z).toNat)
      case atStart => exact ⟨0, none, 0, [], by omega, by omega, rfl, rfl, HW0.out⟩
      case round =>
        obtain ⟨t, A, c, xs, htk, htn, rfl, rfl, HI⟩ := hrel
        have ht0 : (0 : Int) ≤ (t : Int) := Int.natCast_nonneg _
        by_cases hlt : t < k
        · have hlt' : (t : Int) < (k : Int) := by omega
          by_cases hln : t < n
          · have hln' : (t : Int) < (n : Int) := by omega
            obtain ⟨hd, hdv, hxs0, hbl⟩ := HI.out
            have HXS := Lib.hid hxs0
            clear hxs0 HI
            rcases hd with ⟨σ, m, hσt, hB, hrun, hWσ⟩ | ⟨hon, σ, hWσ⟩
            · have h38 := step38_any w.heap.size b k n wr σ o m (by omega) (by omega) hWσ hbl.size hB (by omega) (by omega) hrun
              rw [hσt] at h38
              have hc3 := hWσ.cell3.1
              have H38 := Lib.hid h38
              have HDV := Lib.hid hdv
              have HBL := Lib.hid hbl
              clear hσt hB hrun hWσ h38 hdv hbl
              go_wp2_with fail
              refine H38.out.mono ?_
              rintro e w4 hS
              clear hc3
              rcases stepR_cases HXS.out hS with ⟨σ', rfl, hoσ', hσ't, hWσ', hCh⟩ | ⟨σ', ov, rfl, hsh, hW4, hCh, hHd, hxs4⟩
              · have hdv := HDV.out.chb hCh
                have hbl := HBL.out.trans hCh.below
                clear hS hCh
                have HE := Lib.hid (HEND.out σ' hoσ')
                have hxs : xs = diagOf σ' := by
                  rw [HXS.out σ' hoσ']
                  exact List.take_of_length_le (by rw [length_diagOf, hσ't]; exact Nat.le_refl _)
                obtain ⟨Au, lu, cu, Av, lv, cv, d1, d2, HTL⟩ := wk_tail hWσ' HE.out.toBase
                have hc3 := hWσ'.cell3.1
                have HRES := Lib.hid (And.intro (show IntsAt w4 (.slice A t c) (diagOf σ') by have h1 := hdv.1; have h2 := hdv.2.1; rw [hxs] at h1 h2; rw [← h2] at h1 ⊢; exact OwnI.ints h1 (fits_diag HE.out.toBase)) (And.intro HTL.out.1 (And.intro HTL.out.2 hbl)))
                clear hxs hWσ' hdv hbl HTL hσ't
                subst hoσ'
                go_wp2_with fail
                go_quiet (fail)
                go_wp2_with fail
                exact bodyPost_ret (v := .tuple #[.slice A t c, .slice Au lu cu, .slice Av lv cv, .int .i64 0]) (by simp [results, Tryz.results45, go_sem]) rfl ⟨⟨_, _, _, rfl, HRES.out.1.drewN _, kept_tab.below HRES.out.2.1 (below_drewN (Below.refl _ _) _), kept_tab.below HRES.out.2.2.1 (below_drewN (Below.refl _ _) _)⟩, below_drewN HRES.out.2.2.2 _⟩
              · have hdv := HDV.out.chb hCh
                have hbl := HBL.out.trans hCh.below
                obtain ⟨g, d, bt, ct, q1, q2, q3, q4, q5, q6, q7, q8⟩ := hW4.look hsh (i := t) (j := t) hlt hln
                have hbl4 : b < w4.heap.size := World.block_lt_of_cell? w4 _ q1
                obtain ⟨A', c', w8, hr8, hW8, hdv8, hb8⟩ := hdv.push hW4 hbl.size (by omega) (ent σ'.a t t)
                have HR8 := Lib.hid hr8
                have HN8 : Hid (HeadS b w.heap.size k n o (t + 1) w8 ∧ DvAt b w.heap.size w8 A' (t + 1) c' (xs ++ [ent σ'.a t t]) ∧ (∀ τ, o = some τ → xs ++ [ent σ'.a t t] = (diagOf τ).take (t + 1)) ∧ Below w.heap.size w w8) := Lib.hid ⟨hHd _ hW8, hdv8, hxs4, hbl.trans hb8⟩
                clear hS hCh hsh hW4 hHd hxs4 hdv hbl hr8 hW8 hdv8 hb8 H38 HXS HDV
                generalize ent σ'.a t t = z at *
                go_wp2_with ((with_reducible refine wpList_sel 80 ?_); refine wpList_val rfl (r_app (.tmp 68) (.tmp 79) 25 rfl rfl rfl HR8.out) ?_)
                go_roundw
                case rel => exact ⟨t + 1, A', c', _, by omega, by omega, by go_num, rfl, HN8⟩
                case measure => simp [intOf]; omega
            · have hc3 := hWσ.cell3.1
              have HBL := Lib.hid hbl
              clear hWσ hbl hdv HXS
              subst hon
              go_wp2_with fail
              exact bodyPost_ret (v := .tuple #[.slice none 0 0, .slice none 0 0, .slice none 0 0, .int .i64 5]) (by simp [results, Tryz.results45, go_sem]) rfl ⟨⟨_, _, _, rfl, intsAt_nil, tab_nil, tab_nil⟩, HBL.out⟩
          · obtain rfl : t = n := by omega
            obtain ⟨hd, hdv, hxs0, hbl⟩ := HI.out
            have HXS := Lib.hid hxs0
            clear hxs0 HI
            rcases hd with ⟨σ, m, hσt, hB, hrun, hWσ⟩ | ⟨hon, σ, hWσ⟩
            · have hoσ := hd_choose_end hB hrun (by omega)
              clear hB hrun
              have HE := Lib.hid (HEND.out σ hoσ)
              have hxs : xs = diagOf σ := by
                rw [HXS.out σ hoσ]
                exact List.take_of_length_le (by rw [length_diagOf, hσt]; exact Nat.le_refl _)
              obtain ⟨Au, lu, cu, Av, lv, cv, d1, d2, HTL⟩ := wk_tail hWσ HE.out.toBase
              have hc3 := hWσ.cell3.1
              have HRES := Lib.hid (And.intro (show IntsAt wr (.slice A t c) (diagOf σ) by have h1 := hdv.1; have h2 := hdv.2.1; rw [hxs] at h1 h2; rw [← h2] at h1 ⊢; exact OwnI.ints h1 (fits_diag HE.out.toBase)) (And.intro HTL.out.1 (And.intro HTL.out.2 hbl)))
              clear hxs hWσ hdv hbl HTL hσt
              subst hoσ
              go_wp2_with fail
              go_quiet (fail)
              go_wp2_with fail
              exact bodyPost_ret (v := .tuple #[.slice A t c, .slice Au lu cu, .slice Av lv cv, .int .i64 0]) (by simp [results, Tryz.results45, go_sem]) rfl ⟨⟨_, _, _, rfl, HRES.out.1.drewN _, kept_tab.below HRES.out.2.1 (below_drewN (Below.refl _ _) _), kept_tab.below HRES.out.2.2.1 (below_drewN (Below.refl _ _) _)⟩, below_drewN HRES.out.2.2.2 _⟩
            · have hc3 := hWσ.cell3.1
              have HBL := Lib.hid hbl
              clear hWσ hbl hdv
              subst hon
              go_wp2_with fail
              exact bodyPost_ret (v := .tuple #[.slice none 0 0, .slice none 0 0, .slice none 0 0, .int .i64 5]) (by simp [results, Tryz.results45, go_sem]) rfl ⟨⟨_, _, _, rfl, intsAt_nil, tab_nil, tab_nil⟩, HBL.out⟩
        · obtain rfl : t = k := by omega
          obtain ⟨hd, hdv, hxs0, hbl⟩ := HI.out
          have HXS := Lib.hid hxs0
          clear hxs0 HI
          rcases hd with ⟨σ, m, hσt, hB, hrun, hWσ⟩ | ⟨hon, σ, hWσ⟩
          · have hoσ := hd_choose_end hB hrun (by omega)
            clear hB hrun
            have HE := Lib.hid (HEND.out σ hoσ)
            have hxs : xs = diagOf σ := by
              rw [HXS.out σ hoσ]
              exact List.take_of_length_le (by rw [length_diagOf, hσt]; exact Nat.le_refl _)
            obtain ⟨Au, lu, cu, Av, lv, cv, d1, d2, HTL⟩ := wk_tail hWσ HE.out.toBase
            have hc3 := hWσ.cell3.1
            have HRES := Lib.hid (And.intro (show IntsAt wr (.slice A t c) (diagOf σ) by have h1 := hdv.1; have h2 := hdv.2.1; rw [hxs] at h1 h2; rw [← h2] at h1 ⊢; exact OwnI.ints h1 (fits_diag HE.out.toBase)) (And.intro HTL.out.1 (And.intro HTL.out.2 hbl)))
            clear hxs hWσ hdv hbl HTL hσt
            subst hoσ
            go_wp2_with fail
            go_quiet (fail)
            go_wp2_with fail
            exact bodyPost_ret (v := .tuple #[.slice A t c, .slice Au lu cu, .slice Av lv cv, .int .i64 0]) (by simp [results, Tryz.results45, go_sem]) rfl ⟨⟨_, _, _, rfl, HRES.out.1.drewN _, kept_tab.below HRES.out.2.1 (below_drewN (Below.refl _ _) _), kept_tab.below HRES.out.2.2.1 (below_drewN (Below.refl _ _) _)⟩, below_drewN HRES.out.2.2.2 _⟩
          · have hc3 := hWσ.cell3.1
            have HBL := Lib.hid hbl
            clear hWσ hbl hdv
            subst hon
            go_wp2_with fail
            exact bodyPost_ret (v := .tuple #[.slice none 0 0, .slice none 0 0, .slice none 0 0, .int .i64 5]) (by simp [results, Tryz.results45, go_sem]) rfl ⟨⟨_, _, _, rfl, intsAt_nil, tab_nil, tab_nil⟩, HBL.out⟩
theorem smith12_any (w : World) (n : Int) (v : Value) (l : List (List Int)) (h : Tab w v l) {d : List Int} {u vv : Mat} {er : Int} (hE : SmE n l d u vv er) : Calls Tryz.prog 45 #[.int .i64 n, v] w (SmithPost d u vv er w) := by
  rcases hE with ⟨h1, rfl, rfl, rfl, rfl⟩ | ⟨h1, h2⟩
  · exact smith12_no w n v l h h1
  · obtain ⟨hn1, -, -, -⟩ := valid_of_check h1
    obtain ⟨k, rfl⟩ : ∃ k : Nat, n = (k : Int) := ⟨n.toNat, by omega⟩
    rw [Int.toNat_natCast] at h2
    rcases h2 with ⟨ho, rfl, rfl, rfl, rfl⟩ | ⟨s, ho, rfl, rfl, rfl, rfl⟩
    · exact smith12_over w k v l h h1 none ho
    · exact smith12_over w k v l h h1 (some s) ho
end Go.Proofs
namespace Go.Proofs
open Go.RowKit Go.Shelf Go.Proofs.Sm
theorem smE_pos {n : Int} {l : Mat} {d : List Int} {u v : Mat} (h : SmE n l d u v 0) : ∀ z ∈ d, 1 ≤ z := by
  rcases h with ⟨h1, -, -, -, h2⟩ | ⟨h1, h2⟩
  · exact absurd h2.symm h1
  · obtain ⟨a, b, c, hv⟩ := valid_of_check h1
    rcases h2 with ⟨-, -, -, -, h3⟩ | ⟨s, ho, rfl, -, -, -⟩
    · omega
    · intro z hz
      simp only [diagOf, List.mem_map, List.mem_range] at hz
      obtain ⟨i, hi, rfl⟩ := hz
      have := (out_end hv ho).pos i hi
      omega
theorem filter_step {d : List Int} {i : Nat} (hi : i < d.length) : ((d.take (i + 1)).filter fun x => !(x == 1)) = ((d.take i).filter fun x => !(x == 1)) ++ (if d.getD i 0 = 1 then [] else [d.getD i 0]) := by
  rw [List.take_succ_eq_append_getElem hi, List.filter_append, List.getD_eq_getElem?_getD, List.getElem?_eq_getElem hi, Option.getD_some]
  by_cases h : d[i] = 1 <;> simp [h]
theorem filter_len (d : List Int) (i : Nat) : ((d.take i).filter fun x => !(x == 1)).length ≤ d.length :=
  Nat.le_trans (List.length_filter_le _ _) (by rw [List.length_take]; omega)
set_option maxRecDepth 100000 in
set_option maxHeartbeats 1000000 in
theorem group14_any (w : World) (n : Int) (v : Value) (l : List (List Int)) (h : Tab w v l) {t : List Int} {free er : Int} (hE : GrE n l t free er) : Calls Tryz.prog 20 #[.int .i64 n, v] w (GroupPost t free er w) := by
  obtain ⟨d, u, vv, e, hS, hcase⟩ := hE
  have HS := Lib.hid (smith12_any w n v l h hS)
  obtain ⟨A0, c0, rfl, -, -, -⟩ := h.open_
  clear h
  rcases hcase with ⟨h0, rfl, rfl, rfl⟩ | ⟨rfl, rfl, rfl, rfl⟩
  · have hd : (er != 0) = true := by simpa using h0
    clear hS h0
    go_enter Tryz.func20, Tryz.ntmps20
    go_wp2_with (go_at_call 45; (refine HS.out.mono ?_); rintro e w1 ⟨⟨vd, vu, vv, rfl, hd, hu, hv⟩, hb⟩; obtain ⟨Ad, cd, rfl, -, -, -⟩ := hd.open_; obtain ⟨Au, cu, rfl, -, -, -⟩ := LAt.open_ hu; obtain ⟨Av, cv, rfl, -, -, -⟩ := LAt.open_ hv; have HB := Lib.hid hb; clear hd hu hv hb)
    go_ret3
    exact ⟨⟨_, rfl, intsAt_nil⟩, HB.out⟩
  · obtain ⟨b1, b2, b3⟩ := smE_bd hS
    have hpos := smE_pos hS
    clear hS
    have hdl : (d.length : Int) ≤ 16 := by omega
    go_enter Tryz.func20, Tryz.ntmps20
    go_wp2_with fail
    refine HS.out.mono ?_
    rintro e w1 ⟨⟨vd, vu, vv', rfl, hd, hu, hv⟩, hb⟩
    have HDF := Lib.hid hd.2
    obtain ⟨Ad, cd, rfl, -, -, hdc⟩ := id hd.open_
    obtain ⟨Au, cu, rfl, -, -, -⟩ := LAt.open_ hu
    obtain ⟨Av, cv, rfl, -, -, -⟩ := LAt.open_ hv
    have HDC := Lib.hid hdc
    have HPOS := Lib.hid hpos
    have HB := Lib.hid hb
    clear hd hu hv hb hdc hpos
    go_wp2_with fail
    go_loopw [4, 11] (fun zt z wr => ∃ (i : Nat) (A : Option Addr) (m c : Nat), i ≤ d.length ∧ z = .int .i64 i ∧ zt = .slice A m c ∧ Hid (OwnI w1.heap.size wr (.slice A m c) ((d.take i).filter fun x => !(x == 1)) ∧ m = ((d.take i).filter fun x => !(x == 1)).length ∧ Below w1.heap.size w1 wr)) (fun _ z _ => d.length - (intOf z).toNat)
    case atStart => exact ⟨0, none, 0, 0, by omega, rfl, rfl, Lib.hid ⟨World.ownsRow_nil _ _ _ _, rfl, by first | exact Below.refl _ _ | exact below_drewN (Below.refl _ _) _⟩⟩
    case round =>
      obtain ⟨i, A, m, c, hi, rfl, rfl, HI⟩ := hrel
      have hi0 : (0 : Int) ≤ (i : Int) := Int.natCast_nonneg _
      by_cases hil : i < d.length
      · have hil' : (i : Int) < (d.length : Int) := by omega
        obtain ⟨bd, od, rfl, hcell⟩ := HDC.out (by omega)
        have hx := hcell i hil
        have hx2 := (HI.out.2.2.cell (p := ⟨bd, od + i, none⟩) (World.block_lt_of_cell? w1 _ hx)).trans hx
        have hp1 : 1 ≤ d.getD i 0 := HPOS.out _ (by rw [List.getD_eq_getElem?_getD, List.getElem?_eq_getElem hil]; exact List.getElem_mem hil)
        have hfs := filter_step hil
        clear hx hcell
        by_cases h1 : d.getD i 0 = 1
        · rw [if_pos h1, List.append_nil] at hfs
          have HN : Hid (OwnI w1.heap.size wr (.slice A m c) ((d.take (i + 1)).filter fun x => !(x == 1)) ∧ m = ((d.take (i + 1)).filter fun x => !(x == 1)).length ∧ Below w1.heap.size w1 wr) := Lib.hid (by rw [hfs]; exact HI.out)
          rw [h1] at hx2
          clear hfs hp1 h1
          go_wp2_with fail
          go_roundw
          case rel => exact ⟨i + 1, A, m, c, by omega, by go_num, rfl, HN⟩
          case measure => simp [intOf]; omega
        · rw [if_neg h1] at hfs
          obtain ⟨A', c', w8, hr8, ho8, hg8, -⟩ := push_int 25 25 Tryz.underlying25 wr w1.heap.size (.slice A m c) _ HI.out.1 (d.getD i 0) (by have := filter_len d i; omega) HI.out.2.2.size
          rw [← HI.out.2.1] at hr8 ho8
          have HR8 := Lib.hid hr8
          have HN : Hid (OwnI w1.heap.size w8 (.slice A' (m + 1) c') ((d.take (i + 1)).filter fun x => !(x == 1)) ∧ m + 1 = ((d.take (i + 1)).filter fun x => !(x == 1)).length ∧ Below w1.heap.size w1 w8) := Lib.hid (by rw [hfs]; exact ⟨ho8, by rw [List.length_append, ← HI.out.2.1]; rfl, HI.out.2.2.grown hg8 HI.out.2.2.size (fun r hr => (owns_block HI.out.1 r hr).1)⟩)
          clear hfs hr8 ho8 hg8
          generalize d.getD i 0 = z at *
          have hz : (1 : Int) < z := by omega
          clear h1 hp1
          go_wp2_with ((with_reducible refine wpList_sel 40 ?_); refine wpList_val rfl (r_app (.tmp 34) (.tmp 39) 25 rfl rfl rfl HR8.out) ?_)
          go_roundw
          case rel => exact ⟨i + 1, A', m + 1, c', by omega, by go_num, rfl, HN⟩
          case measure => simp [intOf]; omega
      · obtain rfl : i = d.length := by omega
        have hint : IntsAt wr (.slice A m c) (d.filter fun x => !(x == 1)) := by
          have h1 := HI.out.1
          have h2 := HI.out.2.1
          rw [List.take_length] at h1 h2
          rw [h2] at h1 ⊢
          exact OwnI.ints h1 fun z hz => HDF.out z (List.mem_filter.1 hz).1
        have HRES := Lib.hid (And.intro hint (HB.out.trans (HI.out.2.2.mono HB.out.size)))
        clear hint
        go_wp2_with fail
        go_ret3
        exact ⟨⟨_, rfl, HRES.out.1⟩, HRES.out.2⟩
end Go.Proofs
namespace Go.Proofs
open Go.RowKit Go.Shelf Go.Proofs.Sm
theorem below_see {w w' : World} (hb : Below w.heap.size w w') {p : Addr} {u : Value} (h : w.cell? p = some u) : w'.cell? p = some u := (hb.cell (World.block_lt_of_cell? w _ h)).trans h
theorem abelian6_range (w : World) (v : Value) (R : List (List Int)) (n : Int) (h : Tab w v R) (hn : n < 1 ∨ 16 < n) : Calls Tryz.prog 6 #[.agg #[.int .i64 n, v]] w (GroupPost [] 0 2 w) := by
  obtain ⟨A, c, rfl, h1, h2, -⟩ := LAt.open_ h
  have hb0 : Below w.heap.size w (w.alloc (.cells #[.int .i64 n, .slice A R.length c] 24)) := (Below.refl _ _).alloc (Nat.le_refl _) _
  have HB0 := Lib.hid hb0
  clear h hb0
  generalize R.length = L at *
  by_cases h1 : n < 1
  · have hd1 : decide (n < 1) = true := decide_eq_true h1
    clear hn h1
    go_enter Tryz.func6, Tryz.ntmps6
    go_wp2_with fail
    go_ret3
    exact ⟨⟨_, rfl, intsAt_nil⟩, HB0.out⟩
  · have hd1 : decide (n < 1) = false := decide_eq_false h1
    have hd2 : decide ((16 : Int) < n) = true := decide_eq_true (by omega)
    clear hn h1
    go_enter Tryz.func6, Tryz.ntmps6
    go_wp2_with fail
    go_ret3
    exact ⟨⟨_, rfl, intsAt_nil⟩, HB0.out⟩
theorem abelian6_long (w : World) (v : Value) (R : List (List Int)) (n : Int) (h : Tab w v R) (hn : 1 ≤ n) (hn2 : n ≤ 16) (hl : 100 < R.length) : Calls Tryz.prog 6 #[.agg #[.int .i64 n, v]] w (GroupPost [] 0 4 w) := by
  obtain ⟨A, c, rfl, h1, h2, -⟩ := LAt.open_ h
  have hb0 : Below w.heap.size w (w.alloc (.cells #[.int .i64 n, .slice A R.length c] 24)) := (Below.refl _ _).alloc (Nat.le_refl _) _
  have HB0 := Lib.hid hb0
  have hd3 : (100 : Int) < (R.length : Int) := by omega
  clear h hb0 hl
  generalize R.length = L at *
  have hd1 : decide (n < 1) = false := decide_eq_false (by omega)
  have hd2 : decide ((16 : Int) < n) = false := decide_eq_false (by omega)
  go_enter Tryz.func6, Tryz.ntmps6
  go_wp2_with fail
  go_ret3
  exact ⟨⟨_, rfl, intsAt_nil⟩, HB0.out⟩
set_option maxRecDepth 100000 in
set_option maxHeartbeats 2000000 in
theorem abelian6_ok (w : World) (v : Value) (R : List (List Int)) (n : Nat) (h : Tab w v R) (hn : 1 ≤ n) (hn2 : n ≤ 16) (hR : R.length ≤ 100) (hk : ∀ x ∈ R, WordOk n x) {t : List Int} {free er : Int} (hE : GrE n (R.map (sumsE n)) t free er) :
    Calls Tryz.prog 6 #[.agg #[.int .i64 (n : Int), v]] w (GroupPost t free er w) := by
  obtain ⟨A, c, rfl, h1, h2, h3⟩ := LAt.open_ h
  have HC := Lib.hid h3
  have HK : Hid (∀ k, k < R.length → WordOk n (R.getD k [])) := Lib.hid fun k hk' => hk _ (by rw [List.getD_eq_getElem?_getD, List.getElem?_eq_getElem hk']; exact List.getElem_mem hk')
  have HF : Hid (∀ y ∈ R.map (sumsE n), Fits y) := Lib.hid fun y hy => by
    obtain ⟨x, hx, rfl⟩ := List.mem_map.1 hy
    exact sumsE_fits (hk x hx).1
  have HE := Lib.hid hE
  obtain ⟨L, hL⟩ : ∃ L, L = R.length := ⟨_, rfl⟩
  rw [← hL] at hR h1 HC HK ⊢
  have HL := Lib.hid hL
  have hLi : (L : Int) ≤ 100 := by omega
  have hni : (1 : Int) ≤ (n : Int) := by omega
  have hni2 : (n : Int) ≤ 16 := by omega
  have hd1 : decide ((n : Int) < 1) = false := decide_eq_false (by omega)
  have hd2 : decide ((16 : Int) < (n : Int)) = false := decide_eq_false (by omega)
  have hd3 : decide ((100 : Int) < (L : Int)) = false := decide_eq_false (by omega)
  clear h h3 hk hE hL
  go_enter Tryz.func6, Tryz.ntmps6
  go_wp2_with fail
  have hbx : (w.alloc (.cells #[.int .i64 (n : Int), .slice A L c] 24)).cell? ⟨w.heap.size, 0, none⟩ = some (.int .i64 (n : Int)) := by rw [cell_of_row _ _ _ _ _ _ (heap_alloc_new w _)]; rfl
  have hby : (w.alloc (.cells #[.int .i64 (n : Int), .slice A L c] 24)).cell? ⟨w.heap.size, 1, none⟩ = some (.slice A L c) := by rw [cell_of_row _ _ _ _ _ _ (heap_alloc_new w _)]; rfl
  have hb0 : Below w.heap.size w (w.alloc (.cells #[.int .i64 (n : Int), .slice A L c] 24)) := (Below.refl _ _).alloc (Nat.le_refl _) _
  have HBX := Lib.hid (And.intro hbx hby)
  have HB0 := Lib.hid hb0
  clear hbx hby hb0
  generalize hb : w.heap.size = b at *
  generalize w.alloc (.cells #[.int .i64 (n : Int), .slice A L c] 24) = w0 at *
  go_loopw [5, 6] (fun zv z wr => ∃ (k : Nat) (A' : Option Addr) (c' : Nat), k ≤ L ∧ z = .int .i64 k ∧ zv = .slice A' k c' ∧ Hid ((∃ bl cs, MatM w0.heap.size wr (.slice A' k c') bl cs ((R.take k).map (sumsE n))) ∧ Below w0.heap.size w0 wr)) (fun _ z _ => L - (intOf z).toNat)
  case atStart => exact ⟨0, none, 0, by omega, rfl, rfl, Lib.hid ⟨⟨_, _, MatM.nil _ _⟩, Below.refl _ _⟩⟩
  case round =>
    obtain ⟨k, A', c', hk, rfl, rfl, HQ⟩ := hrel
    have hk0 : (0 : Int) ≤ (k : Int) := Int.natCast_nonneg _
    have hbx := below_see HQ.out.2 HBX.out.1
    have hby := below_see HQ.out.2 HBX.out.2
    have hbw : Below b w wr := HB0.out.trans (HQ.out.2.mono (by rw [← hb]; rw [← hb] at HB0; exact HB0.out.size))
    by_cases hkl : k < L
    · have hkl' : (k : Int) < (L : Int) := by omega
      obtain ⟨bo, oo, rfl, hcells⟩ := HC.out (by omega)
      obtain ⟨u, hu, hI⟩ := hcells k hkl
      obtain ⟨A1, c1, rfl, -, -, -⟩ := id hI.open_
      have hu' := (hbw.cell (p := ⟨bo, oo + k, none⟩) (by rw [← hb]; exact World.block_lt_of_cell? w _ hu)).trans hu
      have HS : Hid (∀ W, Below wr.heap.size wr W → Calls Tryz.prog 19 #[.slice A1 (R.getD k []).length c1, .int .i64 (n : Int)] W (SumsPost n (R.getD k []) W)) := Lib.hid fun W hW => sums19_ok W _ _ n (kept_ints w W _ _ (fun p hp => by
        have hp2 : p < wr.heap.size := by
          have h1 := hbw.size
          rw [hb] at hp
          have h2 := HQ.out.2.size
          have h3 := HB0.out.size
          omega
        exact (hW.block p hp2).trans (hbw.block p (by rw [← hb]; exact hp))) hI) hn hn2 (HK.out k hkl)
      obtain ⟨⟨bl, cs, hM⟩, hB⟩ := HQ.out
      have hlt : (R.take k).length = k := by rw [List.length_take]; have := HL.out; omega
      have hts : (R.take (k + 1)).map (sumsE n) = (R.take k).map (sumsE n) ++ [sumsE n (R.getD k [])] := by rw [← take_getD R (by rw [← HL.out]; exact hkl), List.map_append]; rfl
      have HPUSH : Hid (∀ W g, Below wr.heap.size wr W → XsAt W g (sumsE n (R.getD k [])) → wr.heap.size ≤ g → ∃ A2 c2 w2, (Builtin.append_ #[40, 40] 40 #[.slice A' k c', .slice (some ⟨W.heap.size, 0, none⟩) 1 1]).run Tryz.prog (W.alloc (.cells #[.slice (some ⟨g, 0, none⟩) n n] 25)) = .ok (.slice A2 (k + 1) c2) w2 ∧ Hid ((∃ bl cs, MatM w0.heap.size w2 (.slice A2 (k + 1) c2) bl cs ((R.take (k + 1)).map (sumsE n))) ∧ Below w0.heap.size w0 w2)) := Lib.hid fun W g hW hX hg => by
        have hMk := hM.keep hW
        obtain ⟨A2, c2, w2, p1, ⟨bl2, cs2, p2⟩, p3⟩ := hMk.push (g := g) (c := n) (Nat.le_trans hB.size hW.size) hX (Nat.le_trans hB.size hg) (by rw [sumsE_length]; exact Nat.le_refl _) (by omega) (fun i hi e => by have := hM.lt.1 i hi; omega) (by rw [List.length_map, hlt]; omega)
        rw [List.length_map, hlt, sumsE_length] at p1
        rw [List.length_map, hlt, ← hts] at p2
        exact ⟨A2, c2, w2, p1, Lib.hid ⟨⟨bl2, cs2, p2⟩, (hB.trans (hW.mono hB.size)).grown p3 (Nat.le_trans hB.size hW.size) fun r hr => (owns_block hMk.out r hr).1⟩⟩
      clear hcells hu hI hM hB hlt hts hbw
      generalize hrk : (R.getD k []).length = rl at *
      have HSE := Lib.hid (And.intro hbx (And.intro hby hu'))
      go_wp2_with fail
      go_region_held3 (fun w' => w'.cell? ⟨b, 0, none⟩ = some (.int .i64 (n : Int)) ∧ w'.cell? ⟨b, 1, none⟩ = some (.slice (some ⟨bo, oo, none⟩) L c) ∧ w'.cell? ⟨bo, oo + k, none⟩ = some (.slice A1 rl c1)) (first | (with_reducible exact HS1.out) | go_keep)
        ((go_at_call 19; (refine (HS.out _ (below_drew (Below.refl _ _))).mono ?_); rintro e w5 ⟨g, rfl, hX, hg, hb5⟩; have HB5 := Lib.hid ((below_drew (Below.refl wr.heap.size wr)).trans hb5); have HS1 : Hid (w5.cell? ⟨b, 0, none⟩ = some (.int .i64 (n : Int)) ∧ w5.cell? ⟨b, 1, none⟩ = some (.slice (some ⟨bo, oo, none⟩) L c) ∧ w5.cell? ⟨bo, oo + k, none⟩ = some (.slice A1 rl c1)) := Lib.hid ⟨below_see HB5.out HSE.out.1, below_see HB5.out HSE.out.2.1, below_see HB5.out HSE.out.2.2⟩; have HX := Lib.hid (And.intro hX hg); clear hX hg hb5))
      obtain ⟨A2, c2, w6, p1, HN⟩ := HPUSH.out w5 g HB5.out HX.out.1 HX.out.2
      have HP1 := Lib.hid p1
      clear p1
      go_wp2_with ((with_reducible refine wpList_sel 45 ?_); refine wpList_val rfl (r_app (.tmp 42) (.tmp 44) 40 rfl rfl rfl HP1.out) ?_)
      go_roundw
      case rel => exact ⟨k + 1, A2, c2, by omega, by go_num, rfl, HN⟩
      case measure => simp [intOf]; omega
    · obtain rfl : k = L := by omega
      obtain ⟨⟨bl, cs, hM⟩, hB⟩ := HQ.out
      have htk : R.take k = R := by rw [HL.out, List.take_length]
      rw [htk] at hM
      have htab : Tab wr (.slice A' k c') (R.map (sumsE n)) := hM.tab HF.out
      have HG := Lib.hid (group14_any wr n _ _ htab HE.out)
      have HB := Lib.hid hbw
      clear hM hB htk htab hbw
      go_wp2_with (go_at_call 20; (refine HG.out.mono ?_); rintro e w5 ⟨⟨vt, rfl, ht⟩, hb5⟩; have HT := Lib.hid ht; have HB5 := Lib.hid hb5; clear ht hb5)
      go_ret3
      have hz := HB.out.size
      rw [hb] at hz
      exact ⟨⟨_, rfl, HT.out⟩, by rw [hb]; exact HB.out.trans (HB5.out.mono hz)⟩
set_option maxRecDepth 100000 in
set_option maxHeartbeats 2000000 in
theorem abelian6_bad (w : World) (v : Value) (R : List (List Int)) (n : Nat) (h : Tab w v R) (hn : 1 ≤ n) (hn2 : n ≤ 16) (hR : R.length ≤ 100) (k0 : Nat) (hk0L : k0 < R.length) (hk : ∀ k, k < k0 → wordE n (R.getD k []) = 0) {er : Int} (hE1 : wordE n (R.getD k0 []) = er) (hE2 : er ≠ 0) :
    Calls Tryz.prog 6 #[.agg #[.int .i64 (n : Int), v]] w (GroupPost [] 0 er w) := by
  obtain ⟨A, c, rfl, h1, h2, h3⟩ := LAt.open_ h
  have HC := Lib.hid h3
  have HK : Hid (∀ k, k < k0 → WordOk n (R.getD k [])) := Lib.hid fun k hk' => wordOk_of (hk k hk')
  have HE := Lib.hid (And.intro hE1 hE2)
  obtain ⟨L, hL⟩ : ∃ L, L = R.length := ⟨_, rfl⟩
  rw [← hL] at hR h1 HC hk0L ⊢
  have HL := Lib.hid hL
  have hLi : (L : Int) ≤ 100 := by omega
  have hni : (1 : Int) ≤ (n : Int) := by omega
  have hni2 : (n : Int) ≤ 16 := by omega
  have hd1 : decide ((n : Int) < 1) = false := decide_eq_false (by omega)
  have hd2 : decide ((16 : Int) < (n : Int)) = false := decide_eq_false (by omega)
  have hd3 : decide ((100 : Int) < (L : Int)) = false := decide_eq_false (by omega)
  clear h h3 hk hE1 hE2 hL
  go_enter Tryz.func6, Tryz.ntmps6
  go_wp2_with fail
  have hbx : (w.alloc (.cells #[.int .i64 (n : Int), .slice A L c] 24)).cell? ⟨w.heap.size, 0, none⟩ = some (.int .i64 (n : Int)) := by rw [cell_of_row _ _ _ _ _ _ (heap_alloc_new w _)]; rfl
  have hby : (w.alloc (.cells #[.int .i64 (n : Int), .slice A L c] 24)).cell? ⟨w.heap.size, 1, none⟩ = some (.slice A L c) := by rw [cell_of_row _ _ _ _ _ _ (heap_alloc_new w _)]; rfl
  have hb0 : Below w.heap.size w (w.alloc (.cells #[.int .i64 (n : Int), .slice A L c] 24)) := (Below.refl _ _).alloc (Nat.le_refl _) _
  have HBX := Lib.hid (And.intro hbx hby)
  have HB0 := Lib.hid hb0
  clear hbx hby hb0
  generalize hb : w.heap.size = b at *
  generalize w.alloc (.cells #[.int .i64 (n : Int), .slice A L c] 24) = w0 at *
  go_loopw [5, 6] (fun zv z wr => ∃ (k : Nat) (A' : Option Addr) (c' : Nat), k ≤ k0 ∧ z = .int .i64 k ∧ zv = .slice A' k c' ∧ Hid ((∃ bl cs, MatM w0.heap.size wr (.slice A' k c') bl cs ((R.take k).map (sumsE n))) ∧ Below w0.heap.size w0 wr)) (fun _ z _ => L - (intOf z).toNat)
  case atStart => exact ⟨0, none, 0, by omega, rfl, rfl, Lib.hid ⟨⟨_, _, MatM.nil _ _⟩, Below.refl _ _⟩⟩
  case round =>
    obtain ⟨k, A', c', hk, rfl, rfl, HQ⟩ := hrel
    have hk0 : (0 : Int) ≤ (k : Int) := Int.natCast_nonneg _
    have hbx := below_see HQ.out.2 HBX.out.1
    have hby := below_see HQ.out.2 HBX.out.2
    have hbw : Below b w wr := HB0.out.trans (HQ.out.2.mono (by rw [← hb]; rw [← hb] at HB0; exact HB0.out.size))
    have hkL : k < L := by omega
    have hkl' : (k : Int) < (L : Int) := by omega
    by_cases hkl : k < k0
    · obtain ⟨bo, oo, rfl, hcells⟩ := HC.out (by omega)
      obtain ⟨u, hu, hI⟩ := hcells k hkL
      obtain ⟨A1, c1, rfl, -, -, -⟩ := id hI.open_
      have hu' := (hbw.cell (p := ⟨bo, oo + k, none⟩) (by rw [← hb]; exact World.block_lt_of_cell? w _ hu)).trans hu
      have HS : Hid (∀ W, Below wr.heap.size wr W → Calls Tryz.prog 19 #[.slice A1 (R.getD k []).length c1, .int .i64 (n : Int)] W (SumsPost n (R.getD k []) W)) := Lib.hid fun W hW => sums19_ok W _ _ n (kept_ints w W _ _ (fun p hp => by
        have hp2 : p < wr.heap.size := by
          have h1 := hbw.size
          rw [hb] at hp
          have h2 := HQ.out.2.size
          have h3 := HB0.out.size
          omega
        exact (hW.block p hp2).trans (hbw.block p (by rw [← hb]; exact hp))) hI) hn hn2 (HK.out k hkl)
      obtain ⟨⟨bl, cs, hM⟩, hB⟩ := HQ.out
      have hlt : (R.take k).length = k := by rw [List.length_take]; have := HL.out; omega
      have hts : (R.take (k + 1)).map (sumsE n) = (R.take k).map (sumsE n) ++ [sumsE n (R.getD k [])] := by rw [← take_getD R (by rw [← HL.out]; exact hkL), List.map_append]; rfl
      have HPUSH : Hid (∀ W g, Below wr.heap.size wr W → XsAt W g (sumsE n (R.getD k [])) → wr.heap.size ≤ g → ∃ A2 c2 w2, (Builtin.append_ #[40, 40] 40 #[.slice A' k c', .slice (some ⟨W.heap.size, 0, none⟩) 1 1]).run Tryz.prog (W.alloc (.cells #[.slice (some ⟨g, 0, none⟩) n n] 25)) = .ok (.slice A2 (k + 1) c2) w2 ∧ Hid ((∃ bl cs, MatM w0.heap.size w2 (.slice A2 (k + 1) c2) bl cs ((R.take (k + 1)).map (sumsE n))) ∧ Below w0.heap.size w0 w2)) := Lib.hid fun W g hW hX hg => by
        have hMk := hM.keep hW
        obtain ⟨A2, c2, w2, p1, ⟨bl2, cs2, p2⟩, p3⟩ := hMk.push (g := g) (c := n) (Nat.le_trans hB.size hW.size) hX (Nat.le_trans hB.size hg) (by rw [sumsE_length]; exact Nat.le_refl _) (by omega) (fun i hi e => by have := hM.lt.1 i hi; omega) (by rw [List.length_map, hlt]; omega)
        rw [List.length_map, hlt, sumsE_length] at p1
        rw [List.length_map, hlt, ← hts] at p2
        exact ⟨A2, c2, w2, p1, Lib.hid ⟨⟨bl2, cs2, p2⟩, (hB.trans (hW.mono hB.size)).grown p3 (Nat.le_trans hB.size hW.size) fun r hr => (owns_block hMk.out r hr).1⟩⟩
      clear hcells hu hI hM hB hlt hts hbw
      generalize hrk : (R.getD k []).length = rl at *
      have HSE := Lib.hid (And.intro hbx (And.intro hby hu'))
      go_wp2_with fail
      go_region_held3 (fun w' => w'.cell? ⟨b, 0, none⟩ = some (.int .i64 (n : Int)) ∧ w'.cell? ⟨b, 1, none⟩ = some (.slice (some ⟨bo, oo, none⟩) L c) ∧ w'.cell? ⟨bo, oo + k, none⟩ = some (.slice A1 rl c1)) (first | (with_reducible exact HS1.out) | go_keep)
        ((go_at_call 19; (refine (HS.out _ (below_drew (Below.refl _ _))).mono ?_); rintro e w5 ⟨g, rfl, hX, hg, hb5⟩; have HB5 := Lib.hid ((below_drew (Below.refl wr.heap.size wr)).trans hb5); have HS1 : Hid (w5.cell? ⟨b, 0, none⟩ = some (.int .i64 (n : Int)) ∧ w5.cell? ⟨b, 1, none⟩ = some (.slice (some ⟨bo, oo, none⟩) L c) ∧ w5.cell? ⟨bo, oo + k, none⟩ = some (.slice A1 rl c1)) := Lib.hid ⟨below_see HB5.out HSE.out.1, below_see HB5.out HSE.out.2.1, below_see HB5.out HSE.out.2.2⟩; have HX := Lib.hid (And.intro hX hg); clear hX hg hb5))
      obtain ⟨A2, c2, w6, p1, HN⟩ := HPUSH.out w5 g HB5.out HX.out.1 HX.out.2
      have HP1 := Lib.hid p1
      clear p1
      go_wp2_with ((with_reducible refine wpList_sel 45 ?_); refine wpList_val rfl (r_app (.tmp 42) (.tmp 44) 40 rfl rfl rfl HP1.out) ?_)
      go_roundw
      case rel => exact ⟨k + 1, A2, c2, by omega, by go_num, rfl, HN⟩
      case measure => simp [intOf]; omega
    · obtain rfl : k = k0 := by omega
      obtain ⟨bo, oo, rfl, hcells⟩ := HC.out (by omega)
      obtain ⟨u, hu, hI⟩ := hcells k hkL
      obtain ⟨A1, c1, rfl, -, -, -⟩ := id hI.open_
      have hu' := (hbw.cell (p := ⟨bo, oo + k, none⟩) (by rw [← hb]; exact World.block_lt_of_cell? w _ hu)).trans hu
      have HS : Hid (∀ W, Below wr.heap.size wr W → Calls Tryz.prog 19 #[.slice A1 (R.getD k []).length c1, .int .i64 (n : Int)] W fun e w' => e = .returned (.tuple #[.slice none 0 0, .int .i64 er]) ∧ ∃ q, w' = W.drewN q) := Lib.hid fun W hW => by
        have hs := sums19_bad W _ _ n (kept_ints w W _ _ (fun p hp => by
          have hp2 : p < wr.heap.size := by
            have h1 := hbw.size
            rw [hb] at hp
            have h2 := HQ.out.2.size
            have h3 := HB0.out.size
            omega
          exact (hW.block p hp2).trans (hbw.block p (by rw [← hb]; exact hp))) hI) hn hn2 (by rw [HE.out.1]; exact HE.out.2)
        rw [HE.out.1] at hs
        exact hs
      have hde : (er != 0) = true := by simpa using HE.out.2
      have HBW := Lib.hid hbw
      clear hcells hu hI hbw
      generalize (R.getD k []).length = rl at *
      have HSE := Lib.hid (And.intro hbx (And.intro hby hu'))
      go_wp2_with fail
      go_region_held3 (fun w' => w'.cell? ⟨b, 0, none⟩ = some (.int .i64 (n : Int)) ∧ w'.cell? ⟨b, 1, none⟩ = some (.slice (some ⟨bo, oo, none⟩) L c) ∧ w'.cell? ⟨bo, oo + k, none⟩ = some (.slice A1 rl c1)) (first | (with_reducible exact HS1.out) | go_keep)
        ((go_at_call 19; (refine (HS.out _ (below_drew (Below.refl _ _))).mono ?_); rintro e w5 ⟨rfl, q5, hq5⟩; have HB5 : Hid (Below wr.heap.size wr w5) := Lib.hid (by rw [hq5]; exact below_drewN (below_drew (Below.refl _ _)) _); have HS1 : Hid (w5.cell? ⟨b, 0, none⟩ = some (.int .i64 (n : Int)) ∧ w5.cell? ⟨b, 1, none⟩ = some (.slice (some ⟨bo, oo, none⟩) L c) ∧ w5.cell? ⟨bo, oo + k, none⟩ = some (.slice A1 rl c1)) := Lib.hid ⟨below_see HB5.out HSE.out.1, below_see HB5.out HSE.out.2.1, below_see HB5.out HSE.out.2.2⟩; clear hq5))
      go_wp2_with fail
      go_ret3
      refine ⟨⟨_, rfl, intsAt_nil⟩, ?_⟩
      rw [hb]
      exact HBW.out.trans (HB5.out.mono (by have := HBW.out.size; rw [hb] at this; exact this))
end Go.Proofs
namespace Go.Proofs.Sm
/-- the least divisor from d on, or n -/
def divF (n : Nat) : Nat → Nat → Nat
  | _, 0 => n
  | d, f + 1 => if d * d ≤ n then (if n % d = 0 then d else divF n (d + 1) f) else n
def divN (n : Nat) : Nat := divF n 2 n
theorem divF_stop {n d f : Nat} (h : ¬ d * d ≤ n) : divF n d f = n := by
  cases f with
  | zero => rfl
  | succ f => unfold divF; rw [if_neg h]
theorem divF_fuel {n d f : Nat} (hd : 1 ≤ d) (hf : n < d + f) (h : d * d ≤ n) : ∃ f', f = f' + 1 ∧ n < (d + 1) + f' := by
  cases f with
  | zero => exact absurd (Nat.le_trans (Nat.le_mul_of_pos_left d hd) h) (by omega)
  | succ f => exact ⟨f, rfl, by omega⟩
theorem divF_spec {n : Nat} : ∀ {f d : Nat}, 1 ≤ d → n < d + f → (divF n d f * divF n d f ≤ n ∧ d ≤ divF n d f ∧ n % divF n d f = 0 ∧ ∀ e, d ≤ e → e < divF n d f → n % e ≠ 0) ∨ (divF n d f = n ∧ ∀ e, d ≤ e → e * e ≤ n → n % e ≠ 0)
  | 0, d, hd, h => .inr ⟨rfl, fun e h1 h2 => absurd (Nat.le_trans (Nat.le_mul_of_pos_left e (by omega)) h2) (by omega)⟩
  | f + 1, d, hd, h => by
    unfold divF
    by_cases h1 : d * d ≤ n
    · rw [if_pos h1]
      by_cases h2 : n % d = 0
      · rw [if_pos h2]
        exact .inl ⟨h1, Nat.le_refl _, h2, fun e h3 h4 => absurd h3 (by omega)⟩
      · rw [if_neg h2]
        rcases divF_spec (n := n) (f := f) (d := d + 1) (by omega) (by omega) with ⟨a, b, c, e⟩ | ⟨a, b⟩
        · refine .inl ⟨a, by omega, c, fun x h3 h4 => ?_⟩
          rcases Nat.eq_or_lt_of_le h3 with rfl | h5
          · exact h2
          · exact e x h5 h4
        · refine .inr ⟨a, fun x h3 h4 => ?_⟩
          rcases Nat.eq_or_lt_of_le h3 with rfl | h5
          · exact h2
          · exact b x h5 h4
    · rw [if_neg h1]
      exact .inr ⟨rfl, fun e h3 h4 => absurd (Nat.le_trans (Nat.mul_le_mul h3 h3) h4) h1⟩
/-- a prime: no divisor but 1 and itself -/
def Prm (p : Nat) : Prop := 2 ≤ p ∧ ∀ e, 2 ≤ e → e < p → p % e ≠ 0
theorem divN_spec {n : Nat} (h : 2 ≤ n) : Prm (divN n) ∧ n % divN n = 0 := by
  have key : ∀ p, 2 ≤ p → n % p = 0 → (∀ e, 2 ≤ e → e < p → n % e ≠ 0) → Prm p := fun p h1 h2 h3 => ⟨h1, fun e h4 h5 h6 => h3 e h4 h5 (Nat.mod_eq_zero_of_dvd (Nat.dvd_trans (Nat.dvd_of_mod_eq_zero h6) (Nat.dvd_of_mod_eq_zero h2)))⟩
  rcases divF_spec (n := n) (f := n) (d := 2) (by omega) (by omega) with ⟨a, b, c, e⟩ | ⟨a, b⟩
  · exact ⟨key _ b c e, c⟩
  · have hn : divN n = n := a
    rw [hn]
    refine ⟨⟨h, fun e h1 h2 h3 => ?_⟩, Nat.mod_self n⟩
    obtain ⟨q, hq⟩ := Nat.dvd_of_mod_eq_zero h3
    rcases Nat.lt_or_ge n (e * e) with h4 | h4
    · have hqe : q < e := by
        rcases Nat.lt_or_ge q e with h5 | h5
        · exact h5
        · have := Nat.mul_le_mul_left e h5
          omega
      have hq2 : 2 ≤ q := by
        rcases q with _ | _ | q
        · omega
        · omega
        · omega
      refine b q hq2 ?_ (Nat.mod_eq_zero_of_dvd ⟨e, by rw [hq, Nat.mul_comm]⟩)
      have h6 := Nat.mul_le_mul_right q (Nat.le_of_lt hqe)
      omega
    · exact b e h1 h4 h3
theorem divN_prm {n : Nat} (h : Prm n) : divN n = n := by
  obtain ⟨h1, h2⟩ := divN_spec h.1
  rcases Nat.lt_or_ge (divN n) n with h3 | h3
  · exact absurd h2 (h.2 _ h1.1 h3)
  · have := Nat.le_of_dvd (by have := h.1; omega) (Nat.dvd_of_mod_eq_zero h2)
    omega
theorem prm_of_divN {n : Nat} (h : 2 ≤ n) (he : divN n = n) : Prm n := he ▸ (divN_spec h).1
theorem divN_le {n : Nat} (h : 2 ≤ n) : divN n ≤ n := Nat.le_of_dvd (by omega) (Nat.dvd_of_mod_eq_zero (divN_spec h).2)
/-- is x a prime below 1000000 -/
def isE (x : Int) : Bool := decide (1 < x) && decide (x < 1000000) && (divN x.toNat == x.toNat)
theorem isE_iff {x : Int} : isE x = true ↔ 1 < x ∧ x < 1000000 ∧ Prm x.toNat := by
  unfold isE
  constructor
  · intro h
    simp only [Bool.and_eq_true, decide_eq_true_eq, beq_iff_eq] at h
    exact ⟨h.1.1, h.1.2, prm_of_divN (by omega) h.2⟩
  · rintro ⟨h1, h2, h3⟩
    simp only [Bool.and_eq_true, decide_eq_true_eq, beq_iff_eq]
    exact ⟨⟨h1, h2⟩, divN_prm h3⟩
/-- n without the factors p, and how many they are (k more) -/
def stripF (p : Nat) : Nat → Nat → Nat → Nat × Nat
  | n, k, 0 => (n, k)
  | n, k, f + 1 => if n % p = 0 then stripF p (n / p) (k + 1) f else (n, k)
theorem strip_lt {n p : Nat} (hn : 1 ≤ n) (hp : 2 ≤ p) : n / p < n := Nat.div_lt_self (by omega) (by omega)
theorem strip_pos {n p : Nat} (hn : 1 ≤ n) (hp : 2 ≤ p) (h : n % p = 0) : 1 ≤ n / p := Nat.div_pos (Nat.le_of_dvd hn (Nat.dvd_of_mod_eq_zero h)) (by omega)
theorem stripF_spec {p : Nat} (hp : 2 ≤ p) : ∀ {f n k : Nat}, 1 ≤ n → n ≤ f → ∃ j, (stripF p n k f).2 = k + j ∧ n = (stripF p n k f).1 * p ^ j ∧ (stripF p n k f).1 % p ≠ 0 ∧ 1 ≤ (stripF p n k f).1
  | 0, n, k, h1, h2 => by omega
  | f + 1, n, k, h1, h2 => by
    unfold stripF
    by_cases h : n % p = 0
    · rw [if_pos h]
      have h3 := strip_lt h1 hp
      obtain ⟨j, a, b, c, d⟩ := stripF_spec hp (f := f) (n := n / p) (k := k + 1) (strip_pos h1 hp h) (by omega)
      refine ⟨j + 1, by rw [a]; omega, ?_, c, d⟩
      have h4 : n = (n / p) * p := (Nat.div_mul_cancel (Nat.dvd_of_mod_eq_zero h)).symm
      rw [Nat.pow_succ, ← Nat.mul_assoc, ← b]
      exact h4
    · rw [if_neg h]
      exact ⟨0, rfl, by simp, h, h1⟩
/-- the prime powers of n -/
def factF : Nat → Nat → List (Int × Int)
  | _, 0 => []
  | n, f + 1 => if 1 < n then (((divN n : Nat) : Int), (((stripF (divN n) n 0 n).2 : Nat) : Int)) :: factF (stripF (divN n) n 0 n).1 f else []
def factN (n : Nat) : List (Int × Int) := factF n n
theorem strip_lt2 {n : Nat} (h : 1 < n) : (stripF (divN n) n 0 n).1 < n ∧ 1 ≤ (stripF (divN n) n 0 n).1 ∧ 1 ≤ (stripF (divN n) n 0 n).2 := by
  obtain ⟨hp, hd⟩ := divN_spec (n := n) (by omega)
  obtain ⟨j, a, b, c, d⟩ := stripF_spec hp.1 (f := n) (n := n) (k := 0) (by omega) (Nat.le_refl _)
  have hj : 1 ≤ j := by
    rcases j with _ | j
    · rw [Nat.pow_zero, Nat.mul_one] at b
      rw [← b] at c
      exact absurd hd c
    · omega
  refine ⟨?_, d, by omega⟩
  have h2 : 2 ≤ divN n ^ j := Nat.le_trans hp.1 (by
    have := Nat.pow_le_pow_right (show 0 < divN n by have := hp.1; omega) hj
    rwa [Nat.pow_one] at this)
  have h3 := Nat.mul_le_mul_left (stripF (divN n) n 0 n).1 h2
  generalize (stripF (divN n) n 0 n).1 = y at *
  rw [← b] at h3
  omega
end Go.Proofs.Sm
namespace Go.Proofs
open Go.RowKit Go.Shelf Go.Proofs.Sm
theorem sq_lt {d n : Nat} (h : d * d ≤ n) (hn : n ≤ 1000000000) : d ≤ 31623 := by
  rcases Nat.lt_or_ge 31623 d with h1 | h1
  · have := Nat.mul_le_mul h1 h1
    omega
  · exact h1
theorem tmod_nat (n d : Nat) : Int.tmod (n : Int) (d : Int) = ((n % d : Nat) : Int) := rfl
theorem tdiv_nat (n d : Nat) : Int.tdiv (n : Int) (d : Int) = ((n / d : Nat) : Int) := rfl
set_option maxRecDepth 100000 in
theorem divides69_any (w : World) (n : Nat) (hn : n ≤ 1000000000) : Calls Tryz.prog 51 #[.int .i64 (n : Int)] w fun e w' => e = .returned (.int .i64 (divN n : Int)) ∧ ∃ q, w' = w.drewN q := by
  have hn0 : (0 : Int) ≤ (n : Int) := Int.natCast_nonneg _
  have hnb : (n : Int) ≤ 1000000000 := by omega
  obtain ⟨R, hR⟩ : ∃ R, R = divN n := ⟨_, rfl⟩
  rw [← hR]
  have HR := Lib.hid hR
  clear hR
  go_enter Tryz.func51, Tryz.ntmps51
  go_wp2_with fail
  go_loopw [3] (fun z wr => ∃ d f : Nat, z = .int .i64 d ∧ 2 ≤ d ∧ d ≤ 40000 ∧ Hid (n < d + f ∧ divF n d f = R) ∧ ∃ q, wr = w.drewN q) (fun z _ => 40001 - (intOf z).toNat)
  case atStart => exact ⟨2, n, rfl, by omega, by omega, Lib.hid ⟨by omega, HR.out.symm⟩, 0, rfl⟩
  case round =>
    obtain ⟨d, f, rfl, hd, hd2, HI, q, rfl⟩ := hrel
    have hd0 : (2 : Int) ≤ (d : Int) := by omega
    have hdb : (d : Int) ≤ 40000 := by omega
    have hm1 : d * d ≤ 1600000000 := Nat.le_trans (Nat.mul_le_mul hd2 hd2) (by omega)
    have hcast : (d : Int) * (d : Int) = ((d * d : Nat) : Int) := by rw [Int.natCast_mul]
    by_cases hc : d * d ≤ n
    · have hd3 := sq_lt hc hn
      obtain ⟨f', hf, hf2⟩ := divF_fuel (by omega) HI.out.1 hc
      have hstep := HI.out.2
      rw [hf] at hstep
      unfold divF at hstep
      rw [if_pos hc] at hstep
      have HS := Lib.hid hstep
      have HF := Lib.hid hf2
      clear hstep hf hf2 HI
      have hci : ((d * d : Nat) : Int) ≤ (n : Int) := by omega
      have hwz : IntKind.i64.wrap ((d : Int) * (d : Int)) = ((d * d : Nat) : Int) := by rw [hcast]; exact IntWalk.i64_in _ (by omega)
      have hdne : ((d : Int) == 0) = false := by simp; omega
      have hdne2 : ((d : Int) != 0) = true := by simp; omega
      have ht := tmod_nat n d
      have hmd : n % d < d := Nat.mod_lt _ (by omega)
      have hwt : IntKind.i64.wrap ((n % d : Nat) : Int) = ((n % d : Nat) : Int) := IntWalk.i64_in _ (by omega)
      clear hcast
      generalize d * d = m at *
      by_cases h0 : n % d = 0
      · have HE : Hid (d = R) := Lib.hid (by have := HS.out; rw [if_pos h0] at this; exact this)
        rw [h0] at ht hwt
        have ht0 : ((0 : Nat) : Int) = 0 := rfl
        rw [ht0] at ht hwt
        go_wp2_with fail
        go_ret
        exact ⟨ret_int (by rw [HE.out]), (by first | exact ⟨_, rfl⟩ | exact ex_drewN)⟩
      · have HE : Hid (divF n (d + 1) f' = R) := Lib.hid (by have := HS.out; rw [if_neg h0] at this; exact this)
        have hne : (((n % d : Nat) : Int) == 0) = false := by simp; omega
        generalize n % d = x at *
        go_wp2_with fail
        go_roundw
        case rel => exact ⟨d + 1, f', by go_num, by omega, by omega, Lib.hid ⟨HF.out, HE.out⟩, (by first | exact ⟨_, rfl⟩ | exact ex_drewN)⟩
        case measure => simp [intOf]; omega
    · have HE : Hid (n = R) := Lib.hid (by rw [← HI.out.2, divF_stop hc])
      have hci : ¬ ((d * d : Nat) : Int) ≤ (n : Int) := by omega
      have hwz : IntKind.i64.wrap ((d : Int) * (d : Int)) = ((d * d : Nat) : Int) := by rw [hcast]; exact IntWalk.i64_in _ (by omega)
      clear hcast
      generalize d * d = m at *
      go_wp2_with fail
      go_ret
      exact ⟨ret_int (by rw [HE.out]), _, rfl⟩
theorem is50_any (w : World) (x : Int) (hx : In64 x) : Calls Tryz.prog 28 #[.int .i64 x] w fun e w' => e = .returned (.bool (isE x)) ∧ ∃ q, w' = w.drewN q := by
  by_cases h1 : 1 < x
  · by_cases h2 : x < 1000000
    · obtain ⟨n, rfl⟩ : ∃ n : Nat, x = (n : Int) := ⟨x.toNat, by omega⟩
      have HD := Lib.hid (divides69_any w n (by omega))
      have HE : Hid (isE (n : Int) = ((divN n : Int) == (n : Int))) := Lib.hid (by
        unfold isE
        rw [decide_eq_true h1, decide_eq_true h2, Int.toNat_natCast]
        by_cases h : divN n = n
        · simp [h]
        · have : ((divN n : Int) == (n : Int)) = false := by simp; omega
          simp [h, this])
      clear hx
      generalize hR : divN n = R at *
      go_enter Tryz.func28, Tryz.ntmps28
      go_wp2_with (go_at_call 51; (refine HD.out.mono ?_); rintro e w' ⟨rfl, q, rfl⟩)
      go_ret
      exact ⟨ret_bool HE.out.symm, _, rfl⟩
    · have HE : Hid (isE x = false) := Lib.hid (by unfold isE; rw [decide_eq_false h2]; simp)
      clear hx
      go_enter Tryz.func28, Tryz.ntmps28
      go_wp2_with fail
      go_ret
      exact ⟨ret_bool HE.out.symm, 0, rfl⟩
  · have HE : Hid (isE x = false) := Lib.hid (by unfold isE; rw [decide_eq_false h1]; simp)
    clear hx
    go_enter Tryz.func28, Tryz.ntmps28
    go_wp2_with fail
    go_ret
    exact ⟨ret_bool HE.out.symm, 0, rfl⟩
end Go.Proofs
