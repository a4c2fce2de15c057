/- The reference's Smith; The reference's Group; SmithForms; SmithSteps, whole; Arguments opened: lists of numbers, tables, presentations. -/
import Derived.Test.YthfachbkcmifbaaStCS8
import Derived.Test.YthfachbkcmifbaaStCS14
import Derived.Test.YthfachbkcmifbaaStCS1
import Derived.ProofKit
import Derived.Deep.Slices
import Derived.Deep.Strs
namespace Go.Proofs
open Go.RowKit Go.Shelf Go.Proofs.Sm
theorem smith12_no (w : World) (n : Int) (v : Value) (l : List (List Int)) (h : Tab w v l) (hc : checkE n l ≠ 0) : Calls Try.prog 12 #[.int .i64 n, v] w (SmithPost [] [] [] (checkE n l) w) := by
  have HC := Lib.hid (check16_any w n v l h)
  have hd : (checkE n l != 0) = true := by simpa using hc
  obtain ⟨A0, c0, rfl, -, -, -⟩ := h.open_
  clear h hc
  generalize checkE n l = z at *
  go_enter Try.func12, Try.ntmps12
  go_wp2_with (go_at_call 16; (refine HC.out.mono ?_); rintro e w' ⟨rfl, q, rfl⟩)
  exact bodyPost_ret (v := .tuple #[.slice none 0 0, .slice none 0 0, .slice none 0 0, .int .i64 z]) (by simp [results, Try.results12, go_sem]) rfl ⟨⟨_, _, _, rfl, intsAt_nil, tab_nil, tab_nil⟩, below_drewN (Below.refl _ _) _⟩
set_option maxRecDepth 100000 in
set_option maxHeartbeats 1000000 in
theorem smith12_over (w : World) (n : Nat) (v : Value) (l : List (List Int)) (h : Tab w v l) (hc : checkE n l = 0) (o : Option S) (ho : Out n l o) : Calls Try.prog 12 #[.int .i64 (n : Int), v] w (SmithPostP o w) := by
  have hch := check16_any w n v l h
  rw [hc] at hch
  obtain ⟨hn1, hn2, hl, hval⟩ := valid_of_check hc
  rw [Int.toNat_natCast] at hval
  have HC := Lib.hid hch
  have HV := Lib.hid hval
  have HT := Lib.hid h
  obtain ⟨A0, c0, rfl, hc1, hc2, hcc⟩ := h.open_
  have HIDN : Hid (∀ W, Calls Try.prog 36 #[.int .i64 (n : Int)] W (IdPost n W)) := Lib.hid fun W => identity36_any W n (by omega)
  have HCC := Lib.hid hcc
  clear h hch hval hcc hc
  obtain ⟨r, hr⟩ : ∃ r, r = l.length := ⟨_, rfl⟩
  rw [← hr] at hl hc1 HCC HC HT ⊢
  have HR := Lib.hid hr
  clear hr
  have HIDR : Hid (∀ W, Calls Try.prog 36 #[.int .i64 (r : Int)] W (IdPost r W)) := Lib.hid fun W => identity36_any W r (by omega)
  have hr0 : (0 : Int) ≤ (r : Int) := Int.natCast_nonneg _
  have hn0 : (0 : Int) ≤ (n : Int) := Int.natCast_nonneg _
  have hrb : (r : Int) ≤ 100 := by omega
  go_enter Try.func12, Try.ntmps12
  go_wp2_with (first
    | (go_at_call 16; (refine HC.out.mono ?_); rintro e w' ⟨rfl, q, rfl⟩)
    | (go_at_call 36; (with_reducible refine (HIDR.out _).mono ?_); rintro e w1 ⟨Au, cu, blu, csu, rfl, hmu, hb1⟩; have HMU := Lib.hid hmu; have HB1 := Lib.hid hb1; clear hmu hb1)
    | (go_at_call 36; (with_reducible refine (HIDN.out _).mono ?_); rintro e w2 ⟨Av, cv, blv, csv, rfl, hmv, hb2⟩; have HMV := Lib.hid hmv; have HB2 := Lib.hid hb2; clear hmv hb2))
  have hbase : w.heap.size ≤ w2.heap.size := Nat.le_trans HB1.out.size HB2.out.size
  have hst := WkM.start70 (r := r) (n := n) (base := w.heap.size) (base2 := w1.heap.size) hbase (HMU.out.keep HB2.out) HB1.out.size ⟨fun i hi => HMU.out.lt.1 i (by rw [idM_length]; exact hi), fun g hg => (HMU.out.lt.2 g hg).2⟩ HMV.out
  have hbw0 : Below w.heap.size w (w2.alloc (.cells #[.slice none 0 0, .slice Au r cu, .slice Av n cv, .bool false] 70)) := ((below_drewN (Below.refl w.heap.size w) q).trans (HB1.out.trans (HB2.out.mono HB1.out.size))).alloc hbase _
  have HST := Lib.hid (And.intro hst hbw0)
  clear hst hbw0 hbase
  generalize hb : w2.heap.size = b at *
  generalize w2.alloc (.cells #[.slice none 0 0, .slice Au r cu, .slice Av n cv, .bool false] 70) = w3 at *
  clear hb
  go_loopw [10] (fun z wr => ∃ k : Nat, k ≤ r ∧ z = .int .i64 k ∧ Hid (Wk 70 b w.heap.size wr ⟨l.take k, idM r, idM n, 0⟩ (.bool false) ∧ Below w.heap.size w wr)) (fun z _ => r - (intOf z).toNat)
  case atStart => exact ⟨0, by omega, rfl, Lib.hid ⟨HST.out.1, HST.out.2⟩⟩
  case round =>
    obtain ⟨k, hk, rfl, HQ⟩ := hrel
    have hk0 : (0 : Int) ≤ (k : Int) := Int.natCast_nonneg _
    by_cases hlt : k < r
    · have hlt' : (k : Int) < (r : Int) := by omega
      obtain ⟨bo, oo, rfl, hcells⟩ := HCC.out (by omega)
      obtain ⟨u, hu, hI⟩ := hcells k hlt
      have hu2 := (HQ.out.2.cell (p := ⟨bo, oo + k, none⟩) (World.block_lt_of_cell? w _ hu)).trans hu
      have hrow : (l.getD k []).length = n := HV.out.row _ (by rw [List.getD_eq_getElem?_getD, List.getElem?_eq_getElem (by rw [← HR.out]; exact hlt)]; exact List.getElem_mem _)
      obtain ⟨A5, c5, rfl, e1, e2, -⟩ := hI.open_
      rw [hrow] at e1 hu2
      have htk := take_getD l (k := k) (by rw [← HR.out]; exact hlt)
      have hlen : (l.take k).length = k := by rw [List.length_take]; have := HR.out; omega
      have HCL : Hid (∀ W, Below wr.heap.size wr W → Calls Try.prog 37 #[.slice A5 n c5] W fun e w' => ∃ g c, e = .returned (.slice (some ⟨g, 0, none⟩) n c) ∧ XsAt w' g (l.getD k []) ∧ W.heap.size ≤ g ∧ n ≤ c ∧ c ≤ 9223372036854775807 ∧ Below W.heap.size W w') := Lib.hid fun W hb => by
        have h := own37_any W (.slice A5 (l.getD k []).length c5) (l.getD k []) (kept_ints.below hI (HQ.out.2.trans (hb.mono HQ.out.2.size))) (by omega)
        rw [hrow] at h
        refine h.mono fun e w' ⟨A, c, h1, h2, h3⟩ => ?_
        rw [← hrow] at h2
        obtain ⟨g, rfl, h4, h5, h6, h7⟩ := owns_xs h2 (by omega)
        rw [hrow] at h6
        exact ⟨g, c, h1, h4, h5, h6, h7, h3⟩
      obtain ⟨vs, bl, cs, hM⟩ := HQ.out.1
      obtain ⟨d0, -, -, -, d4⟩ := hM.cells
      obtain ⟨Aa, ca, hva, ha1, ha2⟩ := hM.form (k := 0) (by omega)
      have hl0 : (S.mat ⟨l.take k, idM r, idM n, 0⟩ 0).length = k := hlen
      rw [hl0] at hva
      rw [hva] at d0
      have HPUSH : Hid (∀ W g c, Below wr.heap.size wr W → XsAt W g (l.getD k []) → wr.heap.size ≤ g → n ≤ c → c ≤ 9223372036854775807 → ∃ A' c' w', (Builtin.append_ #[22, 22] 22 #[.slice Aa k ca, .slice (some ⟨W.heap.size, 0, none⟩) 1 1]).run Try.prog (W.alloc (.cells #[.slice (some ⟨g, 0, none⟩) n c] 25)) = .ok (.slice A' (k + 1) c') w' ∧ (∃ u, w'.cell? ⟨b, 0, none⟩ = some u) ∧ w'.frozen? ⟨b, 0, none⟩ = false ∧ Wk 70 b w.heap.size (w'.setCell ⟨b, 0, none⟩ (.slice A' (k + 1) c')) ⟨l.take (k + 1), idM r, idM n, 0⟩ (.bool false) ∧ Below w.heap.size w (w'.setCell ⟨b, 0, none⟩ (.slice A' (k + 1) c'))) := Lib.hid fun W g c hb hx hg hc1 hc2 => by
        have h := (hM.below hb).push (g := g) (c := c) (xs := l.getD k []) (Nat.le_trans HQ.out.2.size hb.size) hx (Nat.le_trans HQ.out.2.size hg) (by rw [hrow]; exact hc1) hc2 (fun k' i hk' hi e => by
          have h1 := (hM.row k' i hk' hi).2.1.lt
          omega) (by show (l.take k).length ≤ 1000000; omega)
        obtain ⟨A', c', w', h1, h2, h3, h4, h5⟩ := h
        have hlen' : (S.mk (l.take k) (idM r) (idM n) 0).a.length = k := hlen
        rw [hva, hrow, hlen'] at h1
        rw [hlen'] at h4 h5
        refine ⟨A', c', w', h1, h2, h3, ?_, HQ.out.2.trans ((hb.mono HQ.out.2.size).trans h5)⟩
        rw [← htk]
        exact h4
      clear hM hva ha1 ha2 hl0 hcells hu hI hrow htk hlen
      go_wp2_with fail
      go_region_law (first
        | (go_simp
           go_at_call 37
           (refine (HCL.out _ (below_drew (Below.refl _ _))).mono ?_)
           rintro e w4 ⟨g, c, rfl, hx, hg, hc3, hc4, hb4⟩
           obtain ⟨A', c', w5, hR5, ⟨u5, hu5⟩, hf5, hWk5, hB5⟩ := HPUSH.out w4 g c ((below_drew (Below.refl _ _)).trans hb4) hx hg hc3 hc4
           have hd4 : w4.cell? ⟨b, 0, none⟩ = some (.slice Aa k ca) := (((below_drew (Below.refl wr.heap.size wr)).trans hb4).cell (p := ⟨b, 0, none⟩) (World.block_lt_of_cell? wr _ d0)).trans d0
           have hbl4 : b < w4.heap.size := World.block_lt_of_cell? w4 _ hd4
           have HR5 := Lib.hid hR5
           have HF5 := Lib.hid (And.intro hWk5 hB5)
           clear hx hg hc3 hc4 hb4 hR5 hWk5 hB5)
        | (refine step_sel 42 ?_
           refine step_val rfl (r_app (.tmp 35) (.tmp 41) 22 rfl rfl rfl HR5.out) ?_))
      all_goals
        go_wp2_with fail
        go_roundw
        case rel => exact ⟨k + 1, by omega, by go_num, Lib.hid (by first | exact HF5.out | exact ⟨HF5.out.1.drewN 1, below_drew HF5.out.2⟩)⟩
        case measure => simp [intOf]; omega
    · obtain rfl : k = r := by omega
      have htake : (S.mk (l.take k) (idM k) (idM n) 0) = S.start n l := by
        rw [HR.out, List.take_length]; rfl
      obtain ⟨m, hm⟩ := ho
      have hbase := base_start HV.out
      have HEND : Hid (∀ s, o = some s → Sm.End l.length n s) := Lib.hid fun s hs => out_end HV.out ⟨m, by rw [hm, hs]⟩
      rw [← HR.out] at hm hbase HEND
      have HW0 : Hid (HeadS b w.heap.size k n o 0 wr ∧ DvAt b w.heap.size wr none 0 0 [] ∧ (∀ τ, o = some τ → ([] : List Int) = (diagOf τ).take 0) ∧ Below w.heap.size w wr) := Lib.hid ⟨.inl ⟨S.start n l, m, rfl, hbase, hm, by rw [← htake]; exact HQ.out.1⟩, DvAt.nil _ _ _, fun _ _ => rfl, HQ.out.2⟩
      clear htake hm hbase HCC HQ HC HIDN HIDR
      go_wp2_with fail
      go_loopw [4, 11] (fun zd z wr => ∃ (t : Nat) (A : Option Addr) (c : Nat) (xs : List Int), t ≤ k ∧ t ≤ n ∧ z = .int .i64 t ∧ zd = .slice A t c ∧ Hid (HeadS b w.heap.size k n o t wr ∧ DvAt b w.heap.size wr A t c xs ∧ (∀ τ, o = some τ → xs = (diagOf τ).take t) ∧ Below w.heap.size w wr)) (fun _ z _ => k - (intOf z).toNat)
      case atStart => exact ⟨0, none, 0, [], by omega, by omega, rfl, rfl, HW0.out⟩
      case round =>
        obtain ⟨t, A, c, xs, htk, htn, rfl, rfl, HI⟩ := hrel
        have ht0 : (0 : Int) ≤ (t : Int) := Int.natCast_nonneg _
        by_cases hlt : t < k
        · have hlt' : (t : Int) < (k : Int) := by omega
          by_cases hln : t < n
          · have hln' : (t : Int) < (n : Int) := by omega
            obtain ⟨hd, hdv, hxs0, hbl⟩ := HI.out
            have HXS := Lib.hid hxs0
            clear hxs0 HI
            rcases hd with ⟨σ, m, hσt, hB, hrun, hWσ⟩ | ⟨hon, σ, hWσ⟩
            · have h38 := step38_any w.heap.size b k n wr σ o m (by omega) (by omega) hWσ hbl.size hB (by omega) (by omega) hrun
              rw [hσt] at h38
              have hc3 := hWσ.cell3.1
              have H38 := Lib.hid h38
              have HDV := Lib.hid hdv
              have HBL := Lib.hid hbl
              clear hσt hB hrun hWσ h38 hdv hbl
              go_wp2_with fail
              refine H38.out.mono ?_
              rintro e w4 hS
              clear hc3
              rcases stepR_cases HXS.out hS with ⟨σ', rfl, hoσ', hσ't, hWσ', hCh⟩ | ⟨σ', ov, rfl, hsh, hW4, hCh, hHd, hxs4⟩
              · have hdv := HDV.out.chb hCh
                have hbl := HBL.out.trans hCh.below
                clear hS hCh
                have HE := Lib.hid (HEND.out σ' hoσ')
                have hxs : xs = diagOf σ' := by
                  rw [HXS.out σ' hoσ']
                  exact List.take_of_length_le (by rw [length_diagOf, hσ't]; exact Nat.le_refl _)
                obtain ⟨Au, lu, cu, Av, lv, cv, d1, d2, HTL⟩ := wk_tail hWσ' HE.out.toBase
                have hc3 := hWσ'.cell3.1
                have HRES := Lib.hid (And.intro (show IntsAt w4 (.slice A t c) (diagOf σ') by have h1 := hdv.1; have h2 := hdv.2.1; rw [hxs] at h1 h2; rw [← h2] at h1 ⊢; exact OwnI.ints h1 (fits_diag HE.out.toBase)) (And.intro HTL.out.1 (And.intro HTL.out.2 hbl)))
                clear hxs hWσ' hdv hbl HTL hσ't
                subst hoσ'
                go_wp2_with fail
                go_quiet (fail)
                go_wp2_with fail
                exact bodyPost_ret (v := .tuple #[.slice A t c, .slice Au lu cu, .slice Av lv cv, .int .i64 0]) (by simp [results, Try.results12, go_sem]) rfl ⟨⟨_, _, _, rfl, HRES.out.1.drewN _, kept_tab.below HRES.out.2.1 (below_drewN (Below.refl _ _) _), kept_tab.below HRES.out.2.2.1 (below_drewN (Below.refl _ _) _)⟩, below_drewN HRES.out.2.2.2 _⟩
              · have hdv := HDV.out.chb hCh
                have hbl := HBL.out.trans hCh.below
                obtain ⟨g, d, bt, ct, q1, q2, q3, q4, q5, q6, q7, q8⟩ := hW4.look hsh (i := t) (j := t) hlt hln
                have hbl4 : b < w4.heap.size := World.block_lt_of_cell? w4 _ q1
                obtain ⟨A', c', w8, hr8, hW8, hdv8, hb8⟩ := hdv.push hW4 hbl.size (by omega) (ent σ'.a t t)
                have HR8 := Lib.hid hr8
                have HN8 : Hid (HeadS b w.heap.size k n o (t + 1) w8 ∧ DvAt b w.heap.size w8 A' (t + 1) c' (xs ++ [ent σ'.a t t]) ∧ (∀ τ, o = some τ → xs ++ [ent σ'.a t t] = (diagOf τ).take (t + 1)) ∧ Below w.heap.size w w8) := Lib.hid ⟨hHd _ hW8, hdv8, hxs4, hbl.trans hb8⟩
                clear hS hCh hsh hW4 hHd hxs4 hdv hbl hr8 hW8 hdv8 hb8 H38 HXS HDV
                generalize ent σ'.a t t = z at *
                go_wp2_with ((with_reducible refine wpList_sel 80 ?_); refine wpList_val rfl (r_app (.tmp 68) (.tmp 79) 25 rfl rfl rfl HR8.out) ?_)
                go_roundw
                case rel => exact ⟨t + 1, A', c', _, by omega, by omega, by go_num, rfl, HN8⟩
                case measure => simp [intOf]; omega
            · have hc3 := hWσ.cell3.1
              have HBL := Lib.hid hbl
              clear hWσ hbl hdv HXS
              subst hon
              go_wp2_with fail
              exact bodyPost_ret (v := .tuple #[.slice none 0 0, .slice none 0 0, .slice none 0 0, .int .i64 5]) (by simp [results, Try.results12, go_sem]) rfl ⟨⟨_, _, _, rfl, intsAt_nil, tab_nil, tab_nil⟩, HBL.out⟩
          · obtain rfl : t = n := by omega
            obtain ⟨hd, hdv, hxs0, hbl⟩ := HI.out
            have HXS := Lib.hid hxs0
            clear hxs0 HI
            rcases hd with ⟨σ, m, hσt, hB, hrun, hWσ⟩ | ⟨hon, σ, hWσ⟩
            · have hoσ := hd_choose_end hB hrun (by omega)
              clear hB hrun
              have HE := Lib.hid (HEND.out σ hoσ)
              have hxs : xs = diagOf σ := by
                rw [HXS.out σ hoσ]
                exact List.take_of_length_le (by rw [length_diagOf, hσt]; exact Nat.le_refl _)
              obtain ⟨Au, lu, cu, Av, lv, cv, d1, d2, HTL⟩ := wk_tail hWσ HE.out.toBase
              have hc3 := hWσ.cell3.1
              have HRES := Lib.hid (And.intro (show IntsAt wr (.slice A t c) (diagOf σ) by have h1 := hdv.1; have h2 := hdv.2.1; rw [hxs] at h1 h2; rw [← h2] at h1 ⊢; exact OwnI.ints h1 (fits_diag HE.out.toBase)) (And.intro HTL.out.1 (And.intro HTL.out.2 hbl)))
              clear hxs hWσ hdv hbl HTL hσt
              subst hoσ
              go_wp2_with fail
              go_quiet (fail)
              go_wp2_with fail
              exact bodyPost_ret (v := .tuple #[.slice A t c, .slice Au lu cu, .slice Av lv cv, .int .i64 0]) (by simp [results, Try.results12, go_sem]) rfl ⟨⟨_, _, _, rfl, HRES.out.1.drewN _, kept_tab.below HRES.out.2.1 (below_drewN (Below.refl _ _) _), kept_tab.below HRES.out.2.2.1 (below_drewN (Below.refl _ _) _)⟩, below_drewN HRES.out.2.2.2 _⟩
            · have hc3 := hWσ.cell3.1
              have HBL := Lib.hid hbl
              clear hWσ hbl hdv
              subst hon
              go_wp2_with fail
              exact bodyPost_ret (v := .tuple #[.slice none 0 0, .slice none 0 0, .slice none 0 0, .int .i64 5]) (by simp [results, Try.results12, go_sem]) rfl ⟨⟨_, _, _, rfl, intsAt_nil, tab_nil, tab_nil⟩, HBL.out⟩
        · obtain rfl : t = k := by omega
          obtain ⟨hd, hdv, hxs0, hbl⟩ := HI.out
          have HXS := Lib.hid hxs0
          clear hxs0 HI
          rcases hd with ⟨σ, m, hσt, hB, hrun, hWσ⟩ | ⟨hon, σ, hWσ⟩
          · have hoσ := hd_choose_end hB hrun (by omega)
            clear hB hrun
            have HE := Lib.hid (HEND.out σ hoσ)
            have hxs : xs = diagOf σ := by
              rw [HXS.out σ hoσ]
              exact List.take_of_length_le (by rw [length_diagOf, hσt]; exact Nat.le_refl _)
            obtain ⟨Au, lu, cu, Av, lv, cv, d1, d2, HTL⟩ := wk_tail hWσ HE.out.toBase
            have hc3 := hWσ.cell3.1
            have HRES := Lib.hid (And.intro (show IntsAt wr (.slice A t c) (diagOf σ) by have h1 := hdv.1; have h2 := hdv.2.1; rw [hxs] at h1 h2; rw [← h2] at h1 ⊢; exact OwnI.ints h1 (fits_diag HE.out.toBase)) (And.intro HTL.out.1 (And.intro HTL.out.2 hbl)))
            clear hxs hWσ hdv hbl HTL hσt
            subst hoσ
            go_wp2_with fail
            go_quiet (fail)
            go_wp2_with fail
            exact bodyPost_ret (v := .tuple #[.slice A t c, .slice Au lu cu, .slice Av lv cv, .int .i64 0]) (by simp [results, Try.results12, go_sem]) rfl ⟨⟨_, _, _, rfl, HRES.out.1.drewN _, kept_tab.below HRES.out.2.1 (below_drewN (Below.refl _ _) _), kept_tab.below HRES.out.2.2.1 (below_drewN (Below.refl _ _) _)⟩, below_drewN HRES.out.2.2.2 _⟩
          · have hc3 := hWσ.cell3.1
            have HBL := Lib.hid hbl
            clear hWσ hbl hdv
            subst hon
            go_wp2_with fail
            exact bodyPost_ret (v := .tuple #[.slice none 0 0, .slice none 0 0, .slice none 0 0, .int .i64 5]) (by simp [results, Try.results12, go_sem]) rfl ⟨⟨_, _, _, rfl, intsAt_nil, tab_nil, tab_nil⟩, HBL.out⟩
theorem smith12_any (w : World) (n : Int) (v : Value) (l : List (List Int)) (h : Tab w v l) {d : List Int} {u vv : Mat} {er : Int} (hE : SmE n l d u vv er) : Calls Try.prog 12 #[.int .i64 n, v] w (SmithPost d u vv er w) := by
  rcases hE with ⟨h1, rfl, rfl, rfl, rfl⟩ | ⟨h1, h2⟩
  · exact smith12_no w n v l h h1
  · obtain ⟨hn1, -, -, -⟩ := valid_of_check h1
    obtain ⟨k, rfl⟩ : ∃ k : Nat, n = (k : Int) := ⟨n.toNat, by omega⟩
    rw [Int.toNat_natCast] at h2
    rcases h2 with ⟨ho, rfl, rfl, rfl, rfl⟩ | ⟨s, ho, rfl, rfl, rfl, rfl⟩
    · exact smith12_over w k v l h h1 none ho
    · exact smith12_over w k v l h h1 (some s) ho
end Go.Proofs
namespace Go.Proofs
open Go.RowKit Go.Shelf Go.Proofs.Sm
theorem smE_pos {n : Int} {l : Mat} {d : List Int} {u v : Mat} (h : SmE n l d u v 0) : ∀ z ∈ d, 1 ≤ z := by
  rcases h with ⟨h1, -, -, -, h2⟩ | ⟨h1, h2⟩
  · exact absurd h2.symm h1
  · obtain ⟨a, b, c, hv⟩ := valid_of_check h1
    rcases h2 with ⟨-, -, -, -, h3⟩ | ⟨s, ho, rfl, -, -, -⟩
    · omega
    · intro z hz
      simp only [diagOf, List.mem_map, List.mem_range] at hz
      obtain ⟨i, hi, rfl⟩ := hz
      have := (out_end hv ho).pos i hi
      omega
theorem filter_step {d : List Int} {i : Nat} (hi : i < d.length) : ((d.take (i + 1)).filter fun x => !(x == 1)) = ((d.take i).filter fun x => !(x == 1)) ++ (if d.getD i 0 = 1 then [] else [d.getD i 0]) := by
  rw [List.take_succ_eq_append_getElem hi, List.filter_append, List.getD_eq_getElem?_getD, List.getElem?_eq_getElem hi, Option.getD_some]
  by_cases h : d[i] = 1 <;> simp [h]
theorem filter_len (d : List Int) (i : Nat) : ((d.take i).filter fun x => !(x == 1)).length ≤ d.length :=
  Nat.le_trans (List.length_filter_le _ _) (by rw [List.length_take]; omega)
set_option maxRecDepth 100000 in
set_option maxHeartbeats 1000000 in
theorem group14_any (w : World) (n : Int) (v : Value) (l : List (List Int)) (h : Tab w v l) {t : List Int} {free er : Int} (hE : GrE n l t free er) : Calls Try.prog 14 #[.int .i64 n, v] w (GroupPost t free er w) := by
  obtain ⟨d, u, vv, e, hS, hcase⟩ := hE
  have HS := Lib.hid (smith12_any w n v l h hS)
  obtain ⟨A0, c0, rfl, -, -, -⟩ := h.open_
  clear h
  rcases hcase with ⟨h0, rfl, rfl, rfl⟩ | ⟨rfl, rfl, rfl, rfl⟩
  · have hd : (er != 0) = true := by simpa using h0
    clear hS h0
    go_enter Try.func14, Try.ntmps14
    go_wp2_with (go_at_call 12; (refine HS.out.mono ?_); rintro e w1 ⟨⟨vd, vu, vv, rfl, hd, hu, hv⟩, hb⟩; obtain ⟨Ad, cd, rfl, -, -, -⟩ := hd.open_; obtain ⟨Au, cu, rfl, -, -, -⟩ := LAt.open_ hu; obtain ⟨Av, cv, rfl, -, -, -⟩ := LAt.open_ hv; have HB := Lib.hid hb; clear hd hu hv hb)
    go_ret3
    exact ⟨⟨_, rfl, intsAt_nil⟩, HB.out⟩
  · obtain ⟨b1, b2, b3⟩ := smE_bd hS
    have hpos := smE_pos hS
    clear hS
    have hdl : (d.length : Int) ≤ 16 := by omega
    go_enter Try.func14, Try.ntmps14
    go_wp2_with fail
    refine HS.out.mono ?_
    rintro e w1 ⟨⟨vd, vu, vv', rfl, hd, hu, hv⟩, hb⟩
    have HDF := Lib.hid hd.2
    obtain ⟨Ad, cd, rfl, -, -, hdc⟩ := id hd.open_
    obtain ⟨Au, cu, rfl, -, -, -⟩ := LAt.open_ hu
    obtain ⟨Av, cv, rfl, -, -, -⟩ := LAt.open_ hv
    have HDC := Lib.hid hdc
    have HPOS := Lib.hid hpos
    have HB := Lib.hid hb
    clear hd hu hv hb hdc hpos
    go_wp2_with fail
    go_loopw [4, 11] (fun zt z wr => ∃ (i : Nat) (A : Option Addr) (m c : Nat), i ≤ d.length ∧ z = .int .i64 i ∧ zt = .slice A m c ∧ Hid (OwnI w1.heap.size wr (.slice A m c) ((d.take i).filter fun x => !(x == 1)) ∧ m = ((d.take i).filter fun x => !(x == 1)).length ∧ Below w1.heap.size w1 wr)) (fun _ z _ => d.length - (intOf z).toNat)
    case atStart => exact ⟨0, none, 0, 0, by omega, rfl, rfl, Lib.hid ⟨World.ownsRow_nil _ _ _ _, rfl, by first | exact Below.refl _ _ | exact below_drewN (Below.refl _ _) _⟩⟩
    case round =>
      obtain ⟨i, A, m, c, hi, rfl, rfl, HI⟩ := hrel
      have hi0 : (0 : Int) ≤ (i : Int) := Int.natCast_nonneg _
      by_cases hil : i < d.length
      · have hil' : (i : Int) < (d.length : Int) := by omega
        obtain ⟨bd, od, rfl, hcell⟩ := HDC.out (by omega)
        have hx := hcell i hil
        have hx2 := (HI.out.2.2.cell (p := ⟨bd, od + i, none⟩) (World.block_lt_of_cell? w1 _ hx)).trans hx
        have hp1 : 1 ≤ d.getD i 0 := HPOS.out _ (by rw [List.getD_eq_getElem?_getD, List.getElem?_eq_getElem hil]; exact List.getElem_mem hil)
        have hfs := filter_step hil
        clear hx hcell
        by_cases h1 : d.getD i 0 = 1
        · rw [if_pos h1, List.append_nil] at hfs
          have HN : Hid (OwnI w1.heap.size wr (.slice A m c) ((d.take (i + 1)).filter fun x => !(x == 1)) ∧ m = ((d.take (i + 1)).filter fun x => !(x == 1)).length ∧ Below w1.heap.size w1 wr) := Lib.hid (by rw [hfs]; exact HI.out)
          rw [h1] at hx2
          clear hfs hp1 h1
          go_wp2_with fail
          go_roundw
          case rel => exact ⟨i + 1, A, m, c, by omega, by go_num, rfl, HN⟩
          case measure => simp [intOf]; omega
        · rw [if_neg h1] at hfs
          obtain ⟨A', c', w8, hr8, ho8, hg8, -⟩ := push_int 25 25 Try.underlying25 wr w1.heap.size (.slice A m c) _ HI.out.1 (d.getD i 0) (by have := filter_len d i; omega) HI.out.2.2.size
          rw [← HI.out.2.1] at hr8 ho8
          have HR8 := Lib.hid hr8
          have HN : Hid (OwnI w1.heap.size w8 (.slice A' (m + 1) c') ((d.take (i + 1)).filter fun x => !(x == 1)) ∧ m + 1 = ((d.take (i + 1)).filter fun x => !(x == 1)).length ∧ Below w1.heap.size w1 w8) := Lib.hid (by rw [hfs]; exact ⟨ho8, by rw [List.length_append, ← HI.out.2.1]; rfl, HI.out.2.2.grown hg8 HI.out.2.2.size (fun r hr => (owns_block HI.out.1 r hr).1)⟩)
          clear hfs hr8 ho8 hg8
          generalize d.getD i 0 = z at *
          have hz : (1 : Int) < z := by omega
          clear h1 hp1
          go_wp2_with ((with_reducible refine wpList_sel 40 ?_); refine wpList_val rfl (r_app (.tmp 34) (.tmp 39) 25 rfl rfl rfl HR8.out) ?_)
          go_roundw
          case rel => exact ⟨i + 1, A', m + 1, c', by omega, by go_num, rfl, HN⟩
          case measure => simp [intOf]; omega
      · obtain rfl : i = d.length := by omega
        have hint : IntsAt wr (.slice A m c) (d.filter fun x => !(x == 1)) := by
          have h1 := HI.out.1
          have h2 := HI.out.2.1
          rw [List.take_length] at h1 h2
          rw [h2] at h1 ⊢
          exact OwnI.ints h1 fun z hz => HDF.out z (List.mem_filter.1 hz).1
        have HRES := Lib.hid (And.intro hint (HB.out.trans (HI.out.2.2.mono HB.out.size)))
        clear hint
        go_wp2_with fail
        go_ret3
        exact ⟨⟨_, rfl, HRES.out.1⟩, HRES.out.2⟩
end Go.Proofs
namespace Go.Proofs
open Go.RowKit Go.Shelf Go.Proofs.Sm
def YesPost (w : World) (e : Ending) (w' : World) : Prop := e = .returned (.bool true) ∧ Below w.heap.size w w'
end Go.Proofs
namespace Go.Proofs
open Go.RowKit Go.Shelf Go.Proofs.Sm
def largeE (l : List (List Int)) : Bool := (l.any fun y => decide (8 < y.length)) || decide (8 < l.length)
theorem largeE_hit {l : List (List Int)} {k : Nat} (hk : k < l.length) (h : 8 < (l.getD k []).length) : largeE l = true := by
  unfold largeE
  rw [Bool.or_eq_true]
  left
  rw [List.any_eq_true]
  exact ⟨l.getD k [], by rw [List.getD_eq_getElem?_getD, List.getElem?_eq_getElem hk]; exact List.getElem_mem hk, decide_eq_true h⟩
theorem largeE_no {l : List (List Int)} (h : ∀ k, k < l.length → ¬ 8 < (l.getD k []).length) : largeE l = decide (8 < l.length) := by
  unfold largeE
  have : (l.any fun y => decide (8 < y.length)) = false := by
    rw [List.any_eq_false]
    intro y hy
    obtain ⟨k, hk, rfl⟩ := List.getElem_of_mem hy
    have := h k hk
    rw [List.getD_eq_getElem?_getD, List.getElem?_eq_getElem hk] at this
    simpa using this
  rw [this, Bool.false_or]
theorem dec_len (a : Nat) : decide ((8 : Int) < (a : Int)) = decide (8 < a) := by
  by_cases h : 8 < a
  · rw [decide_eq_true h, decide_eq_true (by omega)]
  · rw [decide_eq_false h, decide_eq_false (by omega)]
theorem large10_any (w : World) (v : Value) (l : List (List Int)) (h : Tab w v l) : Calls Try.prog 10 #[v] w fun e w' => e = .returned (.bool (largeE l)) ∧ ∃ q, w' = w.drewN q := by
  obtain ⟨A, c, rfl, h1, h2, hc⟩ := h.open_
  have HC := Lib.hid hc
  obtain ⟨R, hR⟩ : ∃ R, R = largeE l := ⟨_, rfl⟩
  rw [← hR]
  have HR := Lib.hid hR
  clear h hc hR
  go_enter Try.func10, Try.ntmps10
  go_wp2_with fail
  go_loopw [3] (fun z wr => ∃ k : Nat, k ≤ l.length ∧ z = .int .i64 k ∧ (∀ j, j < k → ¬ 8 < (l.getD j []).length) ∧ ∃ q, wr = w.drewN q) (fun z _ => l.length - (intOf z).toNat)
  case atStart => exact ⟨0, by omega, rfl, fun j hj => absurd hj (by omega), 0, rfl⟩
  case round =>
    obtain ⟨k, hk, rfl, hz, q, rfl⟩ := hrel
    have HZ := Lib.hid hz
    clear hz
    have hk0 : (0 : Int) ≤ (k : Int) := Int.natCast_nonneg _
    by_cases hlt : k < l.length
    · have hlt' : (k : Int) < (l.length : Int) := by omega
      obtain ⟨bo, oo, rfl, hcells⟩ := HC.out (by omega)
      obtain ⟨u, hu, hI⟩ := hcells k hlt
      obtain ⟨A5, c5, rfl, e1, e2, -⟩ := hI.open_
      have HH := Lib.hid (fun h => largeE_hit (l := l) (k := k) hlt h)
      clear hI hcells
      generalize hm : (l.getD k []).length = m at *
      have HM := Lib.hid hm
      clear hm
      by_cases hm8 : 8 < m
      · have hd : (8 : Int) < (m : Int) := by omega
        have HE := Lib.hid (HH.out hm8)
        go_wp2_with fail
        go_ret
        exact ⟨ret_bool (by rw [HR.out, HE.out]), (by first | exact ⟨_, rfl⟩ | exact ex_drewN)⟩
      · have hd : ¬ (8 : Int) < (m : Int) := by omega
        have HM8 := Lib.hid hm8
        clear hm8
        go_wp2_with fail
        go_roundw
        case rel => exact ⟨k + 1, by omega, by go_num, all_succ HZ.out (by rw [HM.out]; exact HM8.out), (by first | exact ⟨_, rfl⟩ | exact ex_drewN)⟩
        case measure => simp [intOf]; omega
    · obtain rfl : k = l.length := by omega
      go_wp2_with fail
      go_ret
      exact ⟨ret_bool (by rw [HR.out, largeE_no HZ.out, ← dec_len]), _, rfl⟩
set_option maxRecDepth 100000 in
set_option maxHeartbeats 4000000 in
theorem steps3_any (w : World) (n : Int) (v : Value) (l : List (List Int)) (h : Tab w v l) : Calls Try.prog 3 #[.int .i64 n, v] w (YesPost w) := by
  obtain ⟨d, u, vv, er, hS⟩ := smE_ex n l
  obtain ⟨t, free, er2, hG⟩ := grE_ex n l
  have HL := Lib.hid (lives9_any w)
  have HLG : Hid (∀ W, Below w.heap.size w W → Calls Try.prog 10 #[v] W fun e w' => e = .returned (.bool (largeE l)) ∧ ∃ q, w' = W.drewN q) := Lib.hid fun W hW => large10_any W v l (kept_tab.below h hW)
  have H11 : Hid (∀ W, Below w.heap.size w W → Calls Try.prog 11 #[.int .i64 n, v] W (SmithPost d u vv er W)) := Lib.hid fun W hW => smith11_any W n v l (kept_tab.below h hW) hS
  have H12 : Hid (∀ W, Below w.heap.size w W → Calls Try.prog 12 #[.int .i64 n, v] W (SmithPost d u vv er W)) := Lib.hid fun W hW => smith12_any W n v l (kept_tab.below h hW) hS
  have H13 : Hid (∀ W, Below w.heap.size w W → Calls Try.prog 13 #[.int .i64 n, v] W (GroupPost t free er2 W)) := Lib.hid fun W hW => group13_any W n v l (kept_tab.below h hW) hG
  have H14 : Hid (∀ W, Below w.heap.size w W → Calls Try.prog 14 #[.int .i64 n, v] W (GroupPost t free er2 W)) := Lib.hid fun W hW => group14_any W n v l (kept_tab.below h hW) hG
  have H15 : Hid (∀ W, Below w.heap.size w W → Calls Try.prog 15 #[.int .i64 n, v] W fun e w' => e = .returned (.int .i64 (checkE n l)) ∧ ∃ q, w' = W.drewN q) := Lib.hid fun W hW => check15_any W n v l (kept_tab.below h hW)
  have H16 : Hid (∀ W, Below w.heap.size w W → Calls Try.prog 16 #[.int .i64 n, v] W fun e w' => e = .returned (.int .i64 (checkE n l)) ∧ ∃ q, w' = W.drewN q) := Lib.hid fun W hW => check16_any W n v l (kept_tab.below h hW)
  obtain ⟨A0, c0, rfl, -, -, -⟩ := h.open_
  clear h hS hG
  generalize l.length = r at *
  have e1 : (er == er) = true := by simp
  have e2 : (er2 == er2) = true := by simp
  have e3 : (free == free) = true := by simp
  generalize hck : checkE n l = ck at *
  have e4 : (ck == ck) = true := by simp
  clear hck
  generalize hbg : largeE l = bg at *
  clear hbg
  cases bg with
  | true =>
    clear H11 H12 H13 H14 H15 H16 e1 e2 e3 e4
    go_enter Try.func3, Try.ntmps3
    go_wp2_with (first
      | (go_at_call 9; (refine HL.out.mono ?_); rintro e w1 ⟨rfl, hb⟩; have HB := Lib.hid hb; clear hb)
      | (go_at_call 10; (refine (HLG.out _ HB.out).mono ?_); rintro e w' ⟨rfl, q, rfl⟩))
    go_ret
    exact ⟨rfl, below_drewN HB.out _⟩
  | false =>
    go_enter Try.func3, Try.ntmps3
    go_wp2_with (first
      | (go_at_call 9; (refine HL.out.mono ?_); rintro e w1 ⟨rfl, hb⟩; have HB := Lib.hid hb; clear hb)
      | (go_at_call 10; (refine (HLG.out _ HB.out).mono ?_); rintro e w' ⟨rfl, q, rfl⟩; have HB1 := Lib.hid (below_drewN HB.out q))
      | (go_at_call 11; (refine (H11.out _ HB1.out).mono ?_); rintro e w2 ⟨⟨vd, vu, vv1, rfl, hd, hu, hv⟩, hb⟩; have HB2 := Lib.hid (HB1.out.trans (hb.mono HB1.out.size)); have HD1 := Lib.hid hd; have HU1 := Lib.hid hu; have HV1 := Lib.hid hv; obtain ⟨Ad, cd, rfl, -, -, -⟩ := hd.open_; obtain ⟨Au, cu, rfl, -, -, -⟩ := LAt.open_ hu; obtain ⟨Av, cv, rfl, -, -, -⟩ := LAt.open_ hv; clear hd hu hv hb)
      | (go_at_call 12; (refine (H12.out _ HB2.out).mono ?_); rintro e w3 ⟨⟨vd, vu, vv1, rfl, hd, hu, hv⟩, hb⟩; have HB3 := Lib.hid (HB2.out.trans (hb.mono HB2.out.size)); have HD2 := Lib.hid hd; have HU2 := Lib.hid hu; have HV2 := Lib.hid hv; have HK3 := Lib.hid hb; obtain ⟨Ad2, cd2, rfl, -, -, -⟩ := hd.open_; obtain ⟨Au2, cu2, rfl, -, -, -⟩ := LAt.open_ hu; obtain ⟨Av2, cv2, rfl, -, -, -⟩ := LAt.open_ hv; clear hd hu hv hb)
      | (go_at_call 13; (refine (H13.out _ HB3.out).mono ?_); rintro e w4 ⟨⟨vt, rfl, ht⟩, hb⟩; have HB4 := Lib.hid (HB3.out.trans (hb.mono HB3.out.size)); have HT1 := Lib.hid ht; have HK4 := Lib.hid hb; obtain ⟨At, ct, rfl, -, -, -⟩ := ht.open_; clear ht hb)
      | (go_at_call 14
         (refine (H14.out _ HB4.out).mono ?_)
         rintro e w5 ⟨⟨vt, rfl, ht⟩, hb⟩
         have HB5 := Lib.hid (HB4.out.trans (hb.mono HB4.out.size))
         have hk := HK4.out.trans (hb.mono HK4.out.size)
         have hk2 := HK3.out.trans (hk.mono HK3.out.size)
         have H17d := Lib.hid fun q => same17_any (w5.drewN q) _ _ _ _ ((kept_ints.below HD1.out hk2).drewN q) ((kept_ints.below HD2.out hk).drewN q)
         have H18u := Lib.hid fun q => sameLists18_any (w5.drewN q) _ _ _ _ (kept_tab.below (kept_tab.below HU1.out hk2) (below_drewN (Below.refl _ _) q)) (kept_tab.below (kept_tab.below HU2.out hk) (below_drewN (Below.refl _ _) q))
         have H18v := Lib.hid fun q => sameLists18_any (w5.drewN q) _ _ _ _ (kept_tab.below (kept_tab.below HV1.out hk2) (below_drewN (Below.refl _ _) q)) (kept_tab.below (kept_tab.below HV2.out hk) (below_drewN (Below.refl _ _) q))
         have H17t := Lib.hid fun q => same17_any (w5.drewN q) _ _ _ _ ((kept_ints.below HT1.out hb).drewN q) (ht.drewN q)
         rw [decide_eq_true rfl] at H17d H18u H18v H17t
         obtain ⟨At2, ct2, rfl, -, -, -⟩ := ht.open_
         clear ht hb hk hk2)
      | (go_at_call 15; (refine (H15.out _ HB5.out).mono ?_); rintro e w' ⟨rfl, q5, rfl⟩)
      | (go_at_call 16; (refine (H16.out _ (below_drewN HB5.out _)).mono ?_); rintro e w' ⟨rfl, q6, rfl⟩; simp only [World.drewN_drewN])
      | (go_at_call 17; (with_reducible refine (H17d.out _).mono ?_); rintro e w' ⟨rfl, q7, rfl⟩; simp only [World.drewN_drewN])
      | (go_at_call 18; (with_reducible refine (H18u.out _).mono ?_); rintro e w' ⟨rfl, q8, rfl⟩; simp only [World.drewN_drewN])
      | (go_at_call 18; (with_reducible refine (H18v.out _).mono ?_); rintro e w' ⟨rfl, q9, rfl⟩; simp only [World.drewN_drewN])
      | (go_at_call 17; (with_reducible refine (H17t.out _).mono ?_); rintro e w' ⟨rfl, q10, rfl⟩; simp only [World.drewN_drewN]))
    go_ret
    exact ⟨rfl, below_drewN HB5.out _⟩
end Go.Proofs
namespace Go.Proofs
open Go.RowKit Go.ChangeShapes Go.WideShapes Go.ChangeAt Go.Deep
section
variable {H : Type} {enc : TypeId × Value → H} {W : World}
theorem spot_none {a : Addr} {v : Value} (h : W.cell? (a.add 0) = some v) : a = ⟨a.block, a.off, none⟩ := by
  obtain ⟨b, o, s⟩ := a
  cases s with
  | none => rfl
  | some q =>
    exfalso
    have e : ({ block := b, off := o, spot := some q } : Addr).add 0 = { block := b, off := o, spot := some q } := by unfold Addr.add; rw [if_pos rfl]
    rw [e] at h
    unfold World.cell? at h
    simp only [Option.isSome_some, if_true] at h
    split at h <;> cases h
theorem wf_fits {x : Int} (h : (Lit.int .i64 x).wf = true) : -9223372036854775808 ≤ x ∧ x ≤ 9223372036854775807 := by
  simpa [Lit.wf, IntKind.min, IntKind.max, IntKind.signed, IntKind.bits] using h
theorem lat_of_trod {α : Type} {R : World → Value → α → Prop} {d : α} {t e : TypeId} {base fuel : Nat} {spare : Nat → Bool} {held : Bool} {v : Value} {x : DataW H × List MemPlace} (ht : Try.prog.underlying t = some (.slice e)) (hc : Try.prog.cellsOf e = 1)
    (hR : ∀ n u y, DataW.trod enc Try.prog W base spare held n e [u] = some y → ∃ z, R W u z) (h : DataW.trod enc Try.prog W base spare held fuel t [v] = some x) : ∃ xs, LAt R d W v xs := by
  rcases open_slice1 ht hc h with ⟨hv, -⟩ | ⟨a, len, cap, m, n, V, D, Pl, hv, -, hl, hm, hmm, -, hx⟩
  · obtain rfl : v = .slice none 0 0 := by simpa using hv
    exact ⟨[], [], ⟨none, 0, 0, rfl, rfl, Nat.le_refl _, by simp [maxLen], fun h => absurd h (by simp)⟩, rfl, fun i hi => absurd hi (by simp)⟩
  · obtain rfl : v = .slice (some a) len cap := by simpa using hv
    have hlm : len ≤ m := by rw [hmm]; split <;> omega
    have hz : ∀ i, i < len → ∃ z, R W (V i) z := fun i hi => hR n (V i) _ (hx i (by omega)).2
    have hf : ∃ f : Nat → α, ∀ i, i < len → R W (V i) (f i) := by
      have hz' : ∀ i, ∃ z, i < len → R W (V i) z := fun i => by
        by_cases hi : i < len
        · obtain ⟨z, hz⟩ := hz i hi; exact ⟨z, fun _ => hz⟩
        · exact ⟨d, fun h => absurd h hi⟩
      exact ⟨fun i => Classical.choose (hz' i), fun i => Classical.choose_spec (hz' i)⟩
    obtain ⟨f, hf⟩ := hf
    refine ⟨(List.range len).map f, (List.range len).map V, ⟨_, len, cap, rfl, by simp, hl, hm, fun h0 => ?_⟩, by simp, fun i hi => ?_⟩
    · have hsp := spot_none (hx 0 (by omega)).1
      refine ⟨a.block, a.off, by rw [← hsp], fun j u hu => ?_⟩
      have hj : j < len := by have := (List.getElem?_eq_some_iff.1 hu).1; simpa using this
      have := (hx j (by omega)).1
      rw [hsp, Addr.add_lit] at this
      rw [this, ← hu]
      simp [List.getElem?_range hj]
    · have hi' : i < len := by simpa using hi
      refine ⟨V i, by simp [List.getElem?_range hi'], ?_⟩
      have : ((List.range len).map f).getD i d = f i := by simp [List.getD_eq_getElem?_getD, List.getElem?_range hi']
      rw [this]
      exact hf i hi'
theorem intsT_of_trod {t : TypeId} (ht : Try.prog.underlying t = some (.slice 3)) {base fuel : Nat} {spare : Nat → Bool} {held : Bool} {v : Value} {x : DataW H × List MemPlace} (h : DataW.trod enc Try.prog W base spare held fuel t [v] = some x) : ∃ xs, IntsAt W v xs := by
  obtain ⟨xs, vs, hS, hl, he⟩ := lat_of_trod (R := fun _ u z => u = .int .i64 z ∧ (Lit.int .i64 z).wf = true) (d := 0) ht (by kernel_rfl) (fun n u y hy => by
    obtain ⟨m, hu, -, hw⟩ := DataW.trod_int Try.underlying3 hy
    exact ⟨m, by simpa using hu, hw⟩) h
  have hvs : vs = ints xs := by
    apply List.ext_getElem (by simpa [ints] using hl)
    intro i h1 h2
    obtain ⟨u, hu, rfl, -⟩ := he i (by omega)
    have hi : i < xs.length := by omega
    rw [List.getElem?_eq_getElem h1] at hu
    rw [Option.some.inj hu]
    simp [ints, List.getD_eq_getElem?_getD, hi]
  refine ⟨xs, hvs ▸ hS, fun z hz => ?_⟩
  obtain ⟨i, hi, rfl⟩ := List.getElem_of_mem hz
  obtain ⟨u, -, -, hw⟩ := he i hi
  have e : xs.getD i 0 = xs[i] := by simp [List.getD_eq_getElem?_getD, hi]
  rw [e] at hw
  exact wf_fits hw
theorem ints_of_trod {base fuel : Nat} {spare : Nat → Bool} {held : Bool} {v : Value} {x : DataW H × List MemPlace} (h : DataW.trod enc Try.prog W base spare held fuel 25 [v] = some x) : ∃ xs, IntsAt W v xs := intsT_of_trod Try.underlying25 h
theorem tab_of_trod {base fuel : Nat} {spare : Nat → Bool} {held : Bool} {v : Value} {x : DataW H × List MemPlace} (h : DataW.trod enc Try.prog W base spare held fuel 22 [v] = some x) : ∃ L, Tab W v L :=
  lat_of_trod Try.underlying22 (by kernel_rfl) (fun _ _ _ hy => ints_of_trod hy) h
end
end Go.Proofs
