/- coset.Standard; cayleyref18.Standard; The state of an enumeration in memory: rows that are written, parents, a queue. -/
import Derived.Test.YtmpnengjboabcaaGreatRgCS4
import Derived.Test.YtmpnengjboabcaaGreatRgCS2
import Derived.Test.YtmpnengjboabcaaGreatRgCS3
namespace Go.Proofs
open Go.RowKit Go.Shelf Go.Proofs.Ct
def TabB (base : Nat) (w : World) (u : Value) (xs : List (List Int)) : Prop := ∀ w' : World, (∀ k, base ≤ k → k < w.heap.size → w'.heap[k]? = w.heap[k]?) → Tab w' u xs
theorem TabB.at_ {base : Nat} {w : World} {u : Value} {xs : List (List Int)} (h : TabB base w u xs) : Tab w u xs := h w fun _ _ _ => rfl
theorem TabB.nil {base : Nat} {w : World} : TabB base w (.slice none 0 0) [] := fun _ _ => tab_nil
theorem TabB.keep {base : Nat} {w w' : World} {u : Value} {xs : List (List Int)} (h : TabB base w u xs) (hs : w.heap.size ≤ w'.heap.size) (hk : ∀ k, base ≤ k → k < w.heap.size → w'.heap[k]? = w.heap[k]?) : TabB base w' u xs := fun w'' h'' => h w'' fun k h1 h2 => (h'' k h1 (by omega)).trans (hk k h1 h2)
theorem StdSt.tabB {bm : Nat} {F : Nat → Prop} {w0 wr : World} {vo vout : Value} {o : List Int} {rows : Tb} (h : StdSt bm F w0 wr vo vout o rows) : TabB w0.heap.size wr vout rows := fun w' hw => by
  have hub := h.out.block
  exact (h.out.keep (G := F) (fun r hr => hw r (hub r hr).1 (by obtain ⟨-, C, hC⟩ := hub r hr; exact (Array.getElem?_eq_some_iff.1 hC).1)) (fun k hk => hw k (h.fs k hk).1 (h.fs k hk).2.1) (fun _ h => h)).tab
def StdPost (g : Int) (t : Tb) (b : Int) (w : World) (e : Ending) (w' : World) : Prop := (∃ u, e = .returned (.tuple #[u, .int .i64 (stdE g t b).2]) ∧ Tab w' u (stdE g t b).1) ∧ Below w.heap.size w w'
def StdPostB (g : Int) (t : Tb) (b : Int) (w : World) (e : Ending) (w' : World) : Prop := (∃ u, e = .returned (.tuple #[u, .int .i64 (stdE g t b).2]) ∧ TabB w.heap.size w' u (stdE g t b).1) ∧ Below w.heap.size w w'
theorem fits_cos {n : Nat} {l : List Int} (h : Cos n l) (hn : n ≤ 1000000) : Fits l := fun x hx => by
  have := h.bd x hx
  omega
theorem fits_num {l : List Int} {row : List Int} (hl : l.length ≤ 1000000) : Fits (row.map (numOf l)) := fun x hx => by
  obtain ⟨y, -, rfl⟩ := List.mem_map.1 hx
  have := @numOf_bd l y
  omega
theorem StdSt.first {w0 w : World} {bm : Nat} {b : Int} (hB : Below w0.heap.size w0 w) (hbm : w0.heap.size ≤ bm) (hm : MapI w bm [b]) (_hb : I64 b) :
    StdSt bm (fun _ => False) w0 ((w.alloc (.cells #[.int .i64 b] 3)).alloc (.cells #[] 22)) (.slice (some ⟨w.heap.size, 0, none⟩) 1 1) (.slice (some ⟨w.heap.size + 1, 0, none⟩) 0 0) [b] [] := by
  have h1 := hB.size
  have hg : w.grownBy ((w.alloc (.cells #[.int .i64 b] 3)).alloc (.cells #[] 22)) none := (World.grownBy_alloc w _ none).trans (World.grownBy_alloc _ _ none)
  have e1 := allocs_get [.cells #[.int .i64 b] 3, .cells #[] 22] w 0 _ rfl
  have e2 := allocs_get [.cells #[.int .i64 b] 3, .cells #[] 22] w 1 _ rfl
  refine ⟨hB.grown hg h1 (fun k hk => by cases hk), hbm, hm.kept hg (by simp), ⟨rfl, .inr ⟨w.heap.size, 1, #[.int .i64 b], rfl, h1, e1, Nat.le_refl _, by simp [maxLen], rfl, rfl⟩⟩, ⟨[], ⟨rfl, .inr ⟨w.heap.size + 1, 0, #[], rfl, by omega, e2, Nat.le_refl _, by simp, rfl, rfl⟩⟩, RowsF.nil _ _⟩, fun k hk => hk.elim⟩
set_option maxRecDepth 100000 in
set_option maxHeartbeats 2000000 in
theorem std48_goodB (w : World) (v : Value) (g : Nat) (t : Tb) (b : Int) (ht : Tab w v t) (hg : TGood g t) (hb0 : 0 ≤ b) (hb1 : b < t.length) : Calls Tryz.prog 37 #[.int .i64 g, v, .int .i64 b] w (StdPostB g t b w) := by
  have hck := check_of_good hg
  have HC : Hid (Calls Tryz.prog 29 #[.int .i64 (g : Int), v] w fun e w' => e = .returned (.tuple #[.int .i64 0, .int .i64 (-1)]) ∧ Below w.heap.size w w') :=
    Lib.hid ((check43_any w v g t ht).mono fun e w' ⟨h2, h3⟩ => by rw [hck] at h2; exact ⟨h2, h3⟩)
  have HE1 : Hid (std t b = none → stdE g t b = ([], 13)) := Lib.hid fun h => by unfold stdE; rw [hck, if_neg (by simp), if_neg (by omega), h]
  have HE2 : Hid (∀ s, std t b = some s → stdE g t b = (s, 0)) := Lib.hid fun s h => by unfold stdE; rw [hck, if_neg (by simp), if_neg (by omega), h]
  obtain ⟨A, c, rfl, hc1, hc2, hc⟩ := ht.open_
  have hn2 := hg.n2
  obtain ⟨bt, ot, rfl, hcell⟩ := hc (by omega)
  have HT := Lib.hid hcell
  have HG := Lib.hid hg
  have hg16 := hg.g16
  have hg16' : (g : Int) ≤ 16 := by omega
  have hg0 : (0 : Int) ≤ (g : Int) := Int.natCast_nonneg _
  have hbI : I64 b := ⟨by omega, by omega⟩
  have HBI := Lib.hid hbI
  have hmm : ∀ w, (Instr.makeMap 111 none).run Tryz.prog w = .ok (.map (some w.heap.size)) (w.alloc (.map #[] 0)) := fun _ => rfl
  clear hcell hc ht hck hg hbI
  go_enter Tryz.func37, Tryz.ntmps37
  go_wp2_with (first
    | (go_at_call 29
       (refine HC.out.mono ?_)
       rintro e w1 ⟨rfl, hb⟩
       have HB := Lib.hid hb
       obtain ⟨w2, hr2, hm2, hgr2⟩ := (MapI.made w1).put HBI.out (by simp) (by simp)
       have HR2 := Lib.hid hr2
       have HM2 := Lib.hid hm2
       have HB2 : Hid (Below w.heap.size w w2) := Lib.hid ((hb.alloc hb.size _).grown hgr2 (by have := hb.size; simp; omega) (fun k hk => by cases hk; exact hb.size))
       have HBM : Hid (w.heap.size ≤ w1.heap.size) := Lib.hid hb.size
       clear hb hr2 hm2 hgr2)
    | ((with_reducible refine wpList_selIns 111 36 37 _ ?_); refine wpList_skip rfl (r_ins 111 (.tmp 36) (.tmp 37) _ rfl rfl rfl rfl HR2.out) ?_))
  have hbx : I64 b := HBI.out
  have hst := StdSt.first HB2.out HBM.out HM2.out HBI.out
  have HST := Lib.hid hst
  clear hst hbx
  go_loopw [11, 12, 13] (fun so su i wr => ∃ k n : Nat, i = .int .i64 k ∧ k ≤ n ∧ k ≤ t.length ∧ Hid (n = (ordTo t b k).length) ∧ (∃ F A c A2 c2, so = .slice A n c ∧ su = .slice A2 k c2 ∧ Hid (StdSt w1.heap.size F w wr so su (ordTo t b k) (outTo (ord t b) t k))) ∧
    Hid (∀ j, j < k → ∀ c, c < (t.row ((ord t b).getD j 0).toNat).length → 0 ≤ (t.row ((ord t b).getD j 0).toNat).getD c 0)) (fun _ _ i _ => t.length - (intOf i).toNat)
  case atStart => exact ⟨0, 1, rfl, by omega, by omega, Lib.hid rfl, ⟨_, _, _, _, _, rfl, rfl, HST⟩, Lib.hid fun j hj => absurd hj (by omega)⟩
  case round =>
    clear HST
    obtain ⟨k, n, rfl, hkn, hkt, HN, ⟨F, A, c', A2, c2, rfl, rfl, HST⟩, HNG⟩ := hrel
    have hk0 : (0 : Int) ≤ (k : Int) := Int.natCast_nonneg _
    by_cases hlt : k < n
    · have hC : Cos t.length (ordTo t b k) := Cos.ordTo HG.out hb0 hb1 k
      have hnl := length_le_of_nodup hC
      have hn3 : n ≤ t.length := by have := HN.out; omega
      have hx := hC.get (k := k) (by have := HN.out; omega)
      obtain ⟨r', hr'⟩ := Int.eq_ofNat_of_zero_le hx.1
      have hr1 : r' < t.length := by omega
      have hrl := HG.out.len r' hr1
      have HRL := Lib.hid hrl
      have hord : (ord t b).getD k 0 = (r' : Int) := by
        rw [show ord t b = ordTo t b t.length from rfl, pre_get (ordTo_mono t b hkt) (by have := HN.out; omega), hr']
      have HORD := Lib.hid hord
      have hstep : ordTo t b (k + 1) = visitTo (t.row r') (t.row r').length (ordTo t b k) := by
        rw [ordTo, if_pos (by have := HN.out; omega), hr']
        simp
      have hpre : visitTo (t.row r') (t.row r').length (ordTo t b k) <+: ord t b := by
        rw [← hstep]
        exact ordTo_mono t b (by have := HN.out; omega)
      have HSTEP := Lib.hid hstep
      have HPRE := Lib.hid hpre
      have HCOS := Lib.hid hC
      obtain ⟨A3, c3, w3, hr3, hS3⟩ := HST.out.start g hg16
      have hoI := hS3.st.ord.ints (fits_cos hC (by omega))
      obtain ⟨A5, c5, e5, he1, he2, he⟩ := hoI.open_
      obtain ⟨rfl, -, rfl⟩ := Value.slice.inj e5
      obtain ⟨b5, o5, rfl, hoc⟩ := he (by have := HN.out; omega)
      have hock := hoc k (by have := HN.out; omega)
      rw [hr'] at hock
      obtain ⟨u, hu, hI⟩ := HT.out r' hr1
      have hu3 := (hS3.st.below.cell (p := ⟨bt, ot + r', none⟩) (World.block_lt_of_cell? w _ hu)).trans hu
      have hI2 : IntsAt w u (t.row r') := hI
      obtain ⟨Au, cu, rfl, hu1, hu2, huc⟩ := hI2.open_
      obtain ⟨bu, ou, rfl, huc'⟩ := huc (by have := HG.out.g1; omega)
      have HUC := Lib.hid huc'
      have HR3 := Lib.hid hr3
      have HS3 := Lib.hid hS3
      have hr0 : (0 : Int) ≤ (r' : Int) := Int.natCast_nonneg _
      have hr2 : (r' : Int) < (t.length : Int) := by omega
      have hkn' : (k : Int) < (n : Int) := by omega
      have HX := Lib.hid hr'
      clear hr3 hS3 hoI e5 he he1 he2 hoc hu hI hI2 huc huc' hrl hord hstep hpre hC hx hr'
      go_wp2_with ((with_reducible refine wpList_sel 50 ?_); refine wpList_val rfl (r_make 22 _ (.tmp 49) rfl rfl rfl HR3.out) ?_)
      go_loopw [11, 14, 59] (fun so sr i wr2 => ∃ j m : Nat, i = .int .i64 j ∧ j ≤ (t.row r').length ∧ Hid (m = (visitTo (t.row r') j (ordTo t b k)).length) ∧
        (∃ A c A3 c3, so = .slice A m c ∧ sr = .slice A3 j c3 ∧ Hid (StdSt2 w1.heap.size F w wr2 so (.slice A2 k c2) sr (visitTo (t.row r') j (ordTo t b k)) (outTo (ord t b) t k) (((t.row r').take j).map (numOf (ord t b))))) ∧
        Hid (∀ c, c < j → 0 ≤ (t.row r').getD c 0)) (fun _ _ i _ => (t.row r').length - (intOf i).toNat)
      case atStart => exact ⟨0, n, rfl, by omega, HN, ⟨_, _, _, _, rfl, rfl, HS3⟩, Lib.hid fun j hj => absurd hj (by omega)⟩
      case round =>
        clear HS3 hock hu3
        obtain ⟨j, m, rfl, hj, HM, ⟨A6, c6, A7, c7, rfl, rfl, HS⟩, HNJ⟩ := hrel
        have hj0 : (0 : Int) ≤ (j : Int) := Int.natCast_nonneg _
        by_cases hjl : j < (t.row r').length
        · have hcs := HUC.out j hjl
          have hcs' := (HS.out.st.below.cell (p := ⟨bu, ou + j, none⟩) (World.block_lt_of_cell? w _ hcs)).trans hcs
          have hbd := HG.out.bd r' hr1 j (by have := HRL.out; omega)
          have hbd' : -1 ≤ (t.row r').getD j 0 ∧ (t.row r').getD j 0 < t.length := hbd
          have HSJ : Hid (visitTo (t.row r') (j + 1) (ordTo t b k) = visit (visitTo (t.row r') j (ordTo t b k)) ((t.row r').getD j 0)) := Lib.hid rfl
          have HXJ := Lib.hid (map_take_succ (f := numOf (ord t b)) hjl)
          have HNT : Hid ((t.row r').getD j 0 < 0 → std t b = none) := Lib.hid fun h => std_neg (neg_true hr1 hjl h)
          have HPJ : Hid (visitTo (t.row r') (j + 1) (ordTo t b k) <+: ord t b) := Lib.hid ((visitTo_mono _ (by omega) _).trans HPRE.out)
          have HCJ : Hid (Cos t.length (visitTo (t.row r') j (ordTo t b k))) := Lib.hid (HCOS.out.visitTo (fun c hc => (HG.out.bd r' hr1 c (by have := HRL.out; omega)).2) (by omega))
          have HNN : Hid (0 ≤ (t.row r').getD j 0 → ∀ c, c < j + 1 → 0 ≤ (t.row r').getD c 0) := Lib.hid fun h => all_succ HNJ.out h
          have hxl : (((t.row r').take j).map (numOf (ord t b))).length = j := by rw [List.length_map, List.length_take]; omega
          have hml := length_le_of_nodup HCJ.out
          clear hcs hbd
          generalize (t.row r').getD j 0 = s at *
          generalize visitTo (t.row r') j (ordTo t b k) = oj at *
          generalize ((t.row r').take j).map (numOf (ord t b)) = xj at *
          have hI : I64 s := ⟨by omega, by omega⟩
          by_cases hs : s < 0
          · have HZ := Lib.hid (HE1.out (HNT.out hs))
            have HBW := Lib.hid HS.out.st.below
            clear hI hxl hml
            go_wp2_with fail
            go_ret2
            exact ⟨⟨.slice none 0 0, ret_of2 rfl (by rw [HZ.out]), by rw [HZ.out]; exact TabB.nil⟩, HBW.out⟩
          · by_cases hin : s ∈ oj
            · have hv : visit oj s = oj := by unfold visit; simp [hin]
              have hsj := HSJ.out
              rw [hv] at hsj
              have hpj := HPJ.out
              rw [hsj] at hpj
              have hnum := idxOf_pre hpj hin
              obtain ⟨c0, hl1⟩ := HS.out.st.map.look_ok hI
              rw [show oj.contains s = true by simpa using hin] at hl1
              have hl2 := HS.out.st.map.look hI hin
              obtain ⟨A8, c8, w8, hr8, hS8⟩ := HS.out.add (numOf oj s) (by have := HRL.out; omega)
              rw [hxl] at hr8 hS8
              rw [← hnum] at hl2 hr8 hS8
              rw [← HXJ.out] at hS8
              have HL1 := Lib.hid hl1
              have HL2 := Lib.hid hl2
              have HR8 := Lib.hid hr8
              have HS8 := Lib.hid hS8
              have HM8 : Hid (m = (visitTo (t.row r') (j + 1) (ordTo t b k)).length) := Lib.hid (by rw [hsj]; exact HM.out)
              rw [← hsj] at HS8
              clear hv hsj hpj hnum hl1 hl2 hr8 hS8 hI hxl hml
              go_wp2_with (first
                | ((with_reducible refine wpList_sel 68 ?_); refine wpList_val rfl (r_look 111 (.tmp 66) (.tmp 67) rfl rfl rfl HL1.out) ?_)
                | ((with_reducible refine wpList_sel 84 ?_); refine wpList_val rfl (r_look 111 (.tmp 82) (.tmp 83) rfl rfl rfl HL2.out) ?_)
                | ((with_reducible refine wpList_sel 86 ?_); refine wpList_val rfl (r_app (.tmp 81) (.tmp 85) 22 rfl rfl rfl HR8.out) ?_))
              go_roundw
              case rel => exact ⟨j + 1, m, by go_num, by omega, HM8, ⟨_, _, _, _, rfl, rfl, HS8⟩, Lib.hid (HNN.out (by omega))⟩
              case measure => simp [intOf]; omega
            · have hv : visit oj s = oj ++ [s] := by unfold visit; simp [hin]; omega
              have hsj := HSJ.out
              rw [hv] at hsj
              have hpj := HPJ.out
              rw [hsj] at hpj
              have hnum := idxOf_pre hpj (x := s) (by simp)
              obtain ⟨c0, hl1⟩ := HS.out.st.map.look_ok hI
              rw [show oj.contains s = false by simpa using hin] at hl1
              obtain ⟨wm, A9, c9, w9, hrm, hr9, hS9⟩ := HS.out.visit hI hin (by omega)
              rw [← HM.out] at hrm hr9 hS9
              have hl2 := hS9.st.map.look hI (by simp)
              obtain ⟨A8, c8, w8, hr8, hS8⟩ := hS9.add (numOf (oj ++ [s]) s) (by have := HRL.out; omega)
              rw [hxl] at hr8 hS8
              rw [← hnum] at hl2 hr8 hS8
              rw [← HXJ.out] at hS8
              have HL1 := Lib.hid hl1
              have HL2 := Lib.hid hl2
              have HR8 := Lib.hid hr8
              have HR9 := Lib.hid hr9
              have HRM := Lib.hid hrm
              have HS8 := Lib.hid hS8
              have HM8 : Hid (m + 1 = (visitTo (t.row r') (j + 1) (ordTo t b k)).length) := Lib.hid (by rw [hsj, List.length_append, HM.out]; rfl)
              rw [← hsj] at HS8
              clear hv hsj hpj hnum hl1 hl2 hr8 hr9 hrm hS8 hS9 hI hxl hml
              go_wp2_with (first
                | ((with_reducible refine wpList_sel 68 ?_); refine wpList_val rfl (r_look 111 (.tmp 66) (.tmp 67) rfl rfl rfl HL1.out) ?_)
                | ((with_reducible refine wpList_selMu 111 73 74 76 ?_); refine wpList_skip rfl (r_mu 111 (.tmp 73) (.tmp 74) (.tmp 76) rfl rfl rfl rfl HRM.out) ?_)
                | ((with_reducible refine wpList_sel 80 ?_); refine wpList_val rfl (r_app (.tmp 77) (.tmp 79) 22 rfl rfl rfl HR9.out) ?_)
                | ((with_reducible refine wpList_sel 84 ?_); refine wpList_val rfl (r_look 111 (.tmp 82) (.tmp 83) rfl rfl rfl HL2.out) ?_)
                | ((with_reducible refine wpList_sel 86 ?_); refine wpList_val rfl (r_app (.tmp 81) (.tmp 85) 22 rfl rfl rfl HR8.out) ?_))
              go_roundw
              case rel => exact ⟨j + 1, m + 1, by go_num, by omega, HM8, ⟨_, _, _, _, rfl, rfl, HS8⟩, Lib.hid (HNN.out (by omega))⟩
              case measure => simp [intOf]; omega
        · obtain rfl : j = (t.row r').length := by omega
          rename World => wy
          have hS := HS.out
          rw [List.take_of_length_le (Nat.le_refl _)] at hS
          have hxl : ((t.row r').map (numOf (ord t b))).length = (t.row r').length := List.length_map _
          have hS' : StdSt2 w1.heap.size F w wy (.slice A6 m c6) (.slice A2 k c2) (.slice A7 ((t.row r').map (numOf (ord t b))).length c7) (visitTo (t.row r') (t.row r').length (ordTo t b k)) (outTo (ord t b) t k) ((t.row r').map (numOf (ord t b))) := by rw [hxl]; exact hS
          have hol : (ord t b).length ≤ 1000000 := by
            have := length_le_of_nodup (Cos.ordTo HG.out hb0 hb1 t.length)
            show (ordTo t b t.length).length ≤ 1000000
            omega
          obtain ⟨A8, c8, w8, hr8, hS8⟩ := hS'.done (fits_num hol) (by rw [length_outTo]; omega)
          rw [length_outTo] at hr8 hS8
          rw [hxl] at hr8
          have he8 : outTo (ord t b) t (k + 1) = outTo (ord t b) t k ++ [(t.row r').map (numOf (ord t b))] := by rw [outTo_succ, HORD.out]; rfl
          rw [← he8, ← HSTEP.out] at hS8
          have HR8 := Lib.hid hr8
          have HS8 := Lib.hid hS8
          have HM8 : Hid (m = (ordTo t b (k + 1)).length) := Lib.hid (by rw [HSTEP.out]; exact HM.out)
          have HNK : Hid (∀ j, j < k + 1 → ∀ c, c < (t.row ((ord t b).getD j 0).toNat).length → 0 ≤ (t.row ((ord t b).getD j 0).toNat).getD c 0) := Lib.hid (all_succ HNG.out (by rw [HORD.out]; exact HNJ.out))
          have hmk : k + 1 ≤ m := by
            have h1 := (visitTo_pre (t.row r') (t.row r').length (ordTo t b k)).length_le
            have h2 := HM.out
            have h3 := HN.out
            omega
          clear hS hS' hxl hol hr8 hS8 he8
          go_wp2_with ((with_reducible refine wpList_sel 91 ?_); refine wpList_val rfl (r_app (.tmp 88) (.tmp 90) 29 rfl rfl rfl HR8.out) ?_)
          go_roundw
          case rel => exact ⟨k + 1, m, by go_num, hmk, by omega, HM8, ⟨_, _, _, _, _, rfl, rfl, HS8⟩, HNK⟩
          case measure => simp [intOf]; omega
    · obtain rfl : k = n := by omega
      have hend : ord t b = ordTo t b k := ord_end (by have := HN.out; omega) hkt
      have HEND := Lib.hid hend
      have HT2 := Lib.hid HST.out.tabB
      have HBW := Lib.hid HST.out.below
      clear hend
      by_cases hkl : k = t.length
      · have d5 : ((k : Int) != (t.length : Int)) = false := by simp [hkl]
        have hs := std_full HG.out hb0 hb1 (by rw [HEND.out, ← HN.out]; exact hkl) (by rw [← hkl]; exact HNG.out)
        have HZ := Lib.hid (HE2.out _ hs)
        have HKL := Lib.hid hkl
        clear hkl hs
        go_wp2_with fail
        go_ret2
        exact ⟨⟨_, ret_of2 rfl (by rw [HZ.out]), by rw [HZ.out, ← HKL.out]; exact HT2.out⟩, HBW.out⟩
      · have d5 : ((k : Int) != (t.length : Int)) = true := by simp; omega
        have HZ := Lib.hid (HE1.out (std_short (by rw [HEND.out, ← HN.out]; exact hkl)))
        clear hkl
        go_wp2_with fail
        go_ret2
        exact ⟨⟨.slice none 0 0, ret_of2 rfl (by rw [HZ.out]), by rw [HZ.out]; exact TabB.nil⟩, HBW.out⟩
theorem std48_good (w : World) (v : Value) (g : Nat) (t : Tb) (b : Int) (ht : Tab w v t) (hg : TGood g t) (hb0 : 0 ≤ b) (hb1 : b < t.length) : Calls Tryz.prog 37 #[.int .i64 g, v, .int .i64 b] w (StdPost g t b w) :=
  (std48_goodB w v g t b ht hg hb0 hb1).mono fun _ _ ⟨⟨u, h1, h2⟩, h3⟩ => ⟨⟨u, h1, h2.at_⟩, h3⟩
end Go.Proofs
namespace Go.Proofs
open Go.RowKit Go.Shelf Go.Proofs.Ct
def numL (o : List Int) (n : Nat) : List Int := (List.range n).map fun (i : Nat) => if o.contains (i : Int) then numOf o (i : Int) else -1
def fillL (i n : Nat) : List Int := (List.range n).map fun (j : Nat) => if j < i then -1 else 0
theorem length_numL (o : List Int) (n : Nat) : (numL o n).length = n := by simp [numL]
theorem length_fillL (i n : Nat) : (fillL i n).length = n := by simp [fillL]
theorem map_range_set {f g : Nat → Int} {n k : Nat} {v : Int} (hv : g k = v) (ho : ∀ j, j < n → j ≠ k → g j = f j) : ((List.range n).map f).set k v = (List.range n).map g := by
  refine getD_ext (d := 0) (by simp) fun j hj => ?_
  have hj' : j < n := by simpa using hj
  rw [getD_set]
  by_cases e : k = j
  · subst e
    rw [if_pos ⟨rfl, by simpa using hj'⟩]
    simp [List.getD_eq_getElem?_getD, hj', hv]
  · rw [if_neg (fun h => e h.1)]
    simp [List.getD_eq_getElem?_getD, hj', ho j hj' (Ne.symm e)]
theorem fillL_set {i n : Nat} : (fillL i n).set i (-1) = fillL (i + 1) n :=
  map_range_set (by simp) fun j _ hne => by
    by_cases h : j < i
    · rw [if_pos h, if_pos (by omega)]
    · rw [if_neg h, if_neg (by omega)]
theorem fillL_full (n : Nat) : fillL n n = numL [] n := by
  unfold fillL numL
  apply List.map_congr_left
  intro j hj
  simp at hj
  simp [hj]
theorem numL_set {o : List Int} {n s : Nat} (hs : (s : Int) ∉ o) : (numL o n).set s o.length = numL (o ++ [(s : Int)]) n := by
  refine map_range_set ?_ fun j _ hne => ?_
  · rw [if_pos (by simp), numOf_new hs (List.prefix_refl _)]
  · have hne' : (j : Int) ≠ (s : Int) := by omega
    by_cases hm : (j : Int) ∈ o
    · rw [if_pos (by simp [hm]), if_pos (by simpa using hm), idxOf_pre (List.prefix_append _ _) hm]
    · rw [if_neg (by simp [hm, hne']), if_neg (by simpa using hm)]
theorem numL_get {o : List Int} {n s : Nat} (hs : s < n) : (numL o n).getD s 0 = if o.contains (s : Int) then numOf o s else -1 := by
  simp [numL, List.getD_eq_getElem?_getD, hs]
theorem numL_in {o : List Int} {n s : Nat} (hs : s < n) (h : (s : Int) ∈ o) : (numL o n).getD s 0 = numOf o s := by
  rw [numL_get hs, if_pos (by simpa using h)]
theorem numL_out {o : List Int} {n s : Nat} (hs : s < n) (h : (s : Int) ∉ o) : (numL o n).getD s 0 = -1 := by
  rw [numL_get hs, if_neg (by simpa using h)]
structure NumSt (nb n : Nat) (w0 wr : World) (vo : Value) (o : List Int) : Prop where
  below : Below w0.heap.size w0 wr
  nb0 : w0.heap.size ≤ nb
  num : XsAt wr nb (numL o n)
  ord : OwnI w0.heap.size wr vo o
  ap : vo.ownBlock ≠ some nb
theorem NumSt.visit {nb n : Nat} {w0 wr : World} {vo : Value} {o : List Int} (h : NumSt nb n w0 wr vo o) {s : Nat} (hs : s < n) (hn : (s : Int) ∉ o) (ho : o.length ≤ 100000) :
    ∃ A' c' w', (Builtin.append_ #[22, 22] 22 #[vo, .slice (some ⟨wr.heap.size, 0, none⟩) 1 1]).run Tryz.prog ((wr.setCell ⟨nb, s, none⟩ (.int .i64 (o.length : Int))).alloc (.cells #[.int .i64 (s : Int)] 3)) = .ok (.slice A' (o.length + 1) c') w' ∧
      NumSt nb n w0 w' (.slice A' (o.length + 1) c') (o ++ [(s : Int)]) := by
  have hg1 := grown_setCell wr nb s (.int .i64 (o.length : Int))
  have hx := h.num.set (k := s) (by rw [length_numL]; exact hs) (o.length : Int)
  rw [numL_set hn] at hx
  have hor : OwnI w0.heap.size (wr.setCell ⟨nb, s, none⟩ (.int .i64 (o.length : Int))) vo o := owns_keep h.ord fun r hr =>
    hg1.block r (owns_lt h.ord hr) (fun e => h.ap (by rw [hr]; exact e))
  have hB1 : Below w0.heap.size w0 (wr.setCell ⟨nb, s, none⟩ (.int .i64 (o.length : Int))) := h.below.grown hg1 h.below.size (fun k hk => by cases hk; exact h.nb0)
  have hsz : (wr.setCell ⟨nb, s, none⟩ (.int .i64 (o.length : Int))).heap.size = wr.heap.size := by simp [World.setCell]
  generalize wr.setCell ⟨nb, s, none⟩ (.int .i64 (o.length : Int)) = W at *
  obtain ⟨A', c', w', hr, ho', hg, hw⟩ := push_int 22 22 Tryz.underlying22 W w0.heap.size vo o hor (s : Int) (by omega) hB1.size
  rw [hsz] at hr
  refine ⟨A', c', w', hr, hB1.grown hg hB1.size (fun k hk => (owns_block hor k hk).1), h.nb0, hx.grown hg h.ap, ho', fun e => ?_⟩
  rcases hw with hw | ⟨r', hr', hge⟩
  · exact h.ap (hw.symm.trans e)
  · rw [hr'] at e
    have : r' = nb := Option.some.inj e
    have := hx.lt
    omega
theorem made3 (n : Nat) : madeCells (Value.int .i64 0).cells n = Array.replicate n (.int .i64 0) := by
  apply Array.ext_getElem?
  intro k
  simp only [madeCells, Value.cells, Array.getElem?_map, Array.getElem?_range, Array.getElem?_replicate]
  by_cases h : k < n
  · simp [h, Nat.mod_one]
  · simp [h]
theorem make24 (w : World) (n : Nat) (hn : n ≤ 1000000) : ∃ w', (Instr.makeSlice 22 (.int .i64 (n : Int)) (.int .i64 (n : Int))).run Tryz.prog w = .ok (.slice (some ⟨w.heap.size, 0, none⟩) n n) w' ∧ XsAt w' w.heap.size (fillL 0 n) ∧ Below w.heap.size w w' := by
  obtain ⟨i, hi, hz, hs, hb⟩ := info3p
  have h := run_makeSlice (P := Tryz.prog) w 22 3 i (.int .i64 0) Tryz.underlying22 hi hz .i64 .i64 n n (by omega) (Int.le_refl _) (by rw [hs]; simp; omega) (by rw [hb]; omega) (by omega)
  simp only [Int.toNat_natCast, hs, Nat.mul_one] at h
  rw [made3] at h
  refine ⟨_, h, ⟨_, heap_alloc_new w _, ?_, fun k hk => ?_⟩, (Below.refl _ _).alloc (Nat.le_refl _) _⟩
  · rw [length_fillL]
    simp
  · rw [length_fillL] at hk
    have : (fillL 0 n).getD k 0 = 0 := by simp [fillL, List.getD_eq_getElem?_getD, hk]
    rw [this]
    simp [hk]
theorem NumSt.first {n nb : Nat} {w0 w : World} {b : Nat} (hB : Below w0.heap.size w0 w) (hnb : w0.heap.size ≤ nb) (hx : XsAt w nb (fillL n n)) (hb : b < n) :
    NumSt nb n w0 ((w.alloc (.cells #[.int .i64 (b : Int)] 3)).setCell ⟨nb, b, none⟩ (.int .i64 0)) (.slice (some ⟨w.heap.size, 0, none⟩) 1 1) [(b : Int)] := by
  have h1 := hB.size
  have h2 := hx.lt
  have hal : Below w.heap.size w (w.alloc (.cells #[.int .i64 (b : Int)] 3)) := (Below.refl _ _).alloc (Nat.le_refl _) _
  have hg := grown_setCell (w.alloc (.cells #[.int .i64 (b : Int)] 3)) nb b (.int .i64 0)
  have hx2 := (hx.below hal).set (k := b) (by rw [length_fillL]; exact hb) 0
  rw [fillL_full] at hx2
  have hx3 := numL_set (o := []) (n := n) (s := b) (by simp)
  simp only [List.length_nil, List.nil_append] at hx3
  rw [show ((0 : Nat) : Int) = 0 from rfl] at hx3
  rw [hx3] at hx2
  refine ⟨(hB.trans (hal.mono h1)).grown hg (by have := hal.size; omega) (fun k hk => by cases hk; exact hnb), hnb, hx2, ⟨rfl, .inr ⟨w.heap.size, 1, #[.int .i64 (b : Int)], rfl, h1, ?_, Nat.le_refl _, by simp [maxLen], rfl, rfl⟩⟩, fun e => ?_⟩
  · refine (hg.block w.heap.size (by simp) (fun e => ?_)).trans (heap_alloc_new w _)
    have : w.heap.size = nb := Option.some.inj e
    omega
  · have : w.heap.size = nb := Option.some.inj e
    omega
theorem complete_neg {g : Nat} {t : Tb} (_hg : TGood g t) (h : complete t = false) : t.any neg = true := by
  unfold complete at h
  rw [Bool.not_eq_false', List.any_eq_true] at h
  obtain ⟨row, hrow, hm⟩ := h
  rw [List.any_eq_true]
  refine ⟨row, hrow, ?_⟩
  unfold neg
  rw [List.any_eq_true]
  exact ⟨-1, by simpa using hm, by decide⟩
theorem TabB.mono {B B' : Nat} {w : World} {u : Value} {xs : List (List Int)} (h : TabB B w u xs) (hB : B' ≤ B) : TabB B' w u xs := fun w' hw => h w' fun k h1 h2 => hw k (Nat.le_trans hB h1) h2
theorem OutSt.tabB {e : TypeId} {F : Nat → Prop} {w0 wr : World} {vout : Value} {rows : List (List Int)} (h : OutSt e F w0 wr vout rows) : TabB w0.heap.size wr vout rows := fun w' hw => by
  have hub := h.out.block
  exact (h.out.keep (G := F) (fun r hr => hw r (hub r hr).1 (by obtain ⟨-, C, hC⟩ := hub r hr; exact (Array.getElem?_eq_some_iff.1 hC).1)) (fun k hk => hw k (h.fs k hk).1 (h.fs k hk).2.1) (fun _ h => h)).tab
set_option maxRecDepth 100000 in
set_option maxHeartbeats 2000000 in
theorem std49_goodB (w : World) (v : Value) (g : Nat) (t : Tb) (b : Nat) (ht : Tab w v t) (hg : TGood g t) (hb1 : b < t.length) : Calls Tryz.prog 80 #[.int .i64 g, v, .int .i64 (b : Int)] w (StdPostB g t b w) := by
  have hck := check_of_good hg
  have HC : Hid (Calls Tryz.prog 96 #[.int .i64 (g : Int), v] w fun e w' => e = .returned (.tuple #[.int .i64 0, .int .i64 (-1)]) ∧ ∃ q, w' = w.drewN q) :=
    Lib.hid ((check44_any w v g t ht).mono fun e w' ⟨h2, h3⟩ => by rw [hck] at h2; exact ⟨h2, h3⟩)
  have HCO : Hid (∀ q, Calls Tryz.prog 97 #[v] (w.drewN q) fun e w' => e = .returned (.bool (complete t)) ∧ ∃ q', w' = (w.drewN q).drewN q') := Lib.hid fun q => complete46_any (w.drewN q) v t (kept_tab _ _ _ _ (fun _ _ => rfl) ht)
  have HE1 : Hid (std t b = none → stdE g t b = ([], 13)) := Lib.hid fun h => by unfold stdE; rw [hck, if_neg (by simp), if_neg (by omega), h]
  have HE2 : Hid (∀ s, std t b = some s → stdE g t b = (s, 0)) := Lib.hid fun s h => by unfold stdE; rw [hck, if_neg (by simp), if_neg (by omega), h]
  obtain ⟨A, c, rfl, hc1, hc2, hc⟩ := ht.open_
  have hn2 := hg.n2
  obtain ⟨bt, ot, rfl, hcell⟩ := hc (by omega)
  have HT := Lib.hid hcell
  have HG := Lib.hid hg
  have hg16 := hg.g16
  have hg16' : (g : Int) ≤ 16 := by omega
  have hg0 : (0 : Int) ≤ (g : Int) := Int.natCast_nonneg _
  have hb0 : (0 : Int) ≤ (b : Int) := Int.natCast_nonneg _
  have hb2 : (b : Int) < (t.length : Int) := by omega
  have hn0 : (0 : Int) ≤ (t.length : Int) := Int.natCast_nonneg _
  clear hcell hc ht hck hg
  cases hco : complete t with
  | false =>
    have HZ := Lib.hid (HE1.out (std_neg (complete_neg HG.out hco)))
    have HCO' := HCO
    rw [hco] at HCO'
    clear HCO hco
    go_enter Tryz.func80, Tryz.ntmps80
    go_wp2_with (first | (go_at_call 96; (refine HC.out.mono ?_); rintro e w' ⟨rfl, q, rfl⟩) | (go_at_call 97; (refine (HCO'.out _).mono ?_); rintro e w' ⟨rfl, q', rfl⟩))
    go_ret2
    exact ⟨⟨.slice none 0 0, ret_of2 rfl (by rw [HZ.out]), by rw [HZ.out]; exact TabB.nil⟩, below_drewN (Below.refl _ _) _⟩
  | true =>
    have HP : Hid (∀ r, r < t.length → ∀ c, c < 2 * g → 0 ≤ t.at r c ∧ t.at r c < t.length) := Lib.hid fun r hr c hc => by
      have h1 := complete_pos hco r hr c (by rw [HG.out.len r hr]; exact hc)
      have h2 := HG.out.bd r hr c hc
      have h3 : t.at r c ≠ -1 := h1
      omega
    rw [hco] at HCO
    clear hco
    go_enter Tryz.func80, Tryz.ntmps80
    go_wp2_with (first
      | (go_at_call 96; (refine HC.out.mono ?_); rintro e w' ⟨rfl, q, rfl⟩)
      | (go_at_call 97
         (refine (HCO.out _).mono ?_)
         rintro e w' ⟨rfl, q', rfl⟩
         obtain ⟨w1, hr1, hx1, hb1'⟩ := make24 (w.drewN (q + q')) t.length (by omega)
         have HB1 : Hid (Below w.heap.size w w1) := Lib.hid ((below_drewN (Below.refl _ w) (q + q')).trans hb1')
         have HR1 := Lib.hid hr1
         have HX1 : Hid (XsAt w1 w.heap.size (fillL 0 t.length)) := Lib.hid hx1
         clear hr1 hx1 hb1')
      | ((with_reducible refine wpList_sel 42 ?_); refine wpList_val rfl (r_make 22 (.tmp 41) (.tmp 41) rfl rfl rfl HR1.out) ?_))
    go_loopw [11] (fun i wr => ∃ k : Nat, k ≤ t.length ∧ i = .int .i64 k ∧ Hid (XsAt wr w.heap.size (fillL k t.length) ∧ Below w.heap.size w wr)) (fun i _ => t.length - (intOf i).toNat)
    case atStart => exact ⟨0, Nat.zero_le _, rfl, Lib.hid ⟨HX1.out, HB1.out⟩⟩
    case round =>
      clear HX1 HB1
      obtain ⟨k, hk, rfl, HK⟩ := hrel
      have hk0 : (0 : Int) ≤ (k : Int) := Int.natCast_nonneg _
      by_cases hlt : k < t.length
      · have hlt' : (k : Int) < (t.length : Int) := by omega
        have hcx := HK.out.1.cell (k := k) (by rw [length_fillL]; exact hlt)
        have hfx := HK.out.1.frozen k
        go_wp2_with fail
        go_roundw
        case rel => exact ⟨k + 1, by omega, by go_num, Lib.hid ⟨by have h := HK.out.1.set (k := k) (by rw [length_fillL]; exact hlt) (-1); rw [fillL_set] at h; exact h, HK.out.2.grown (grown_setCell _ _ _ _) HK.out.2.size (fun k hk => by cases hk; exact Nat.le_refl _)⟩⟩
        case measure => simp [intOf]; omega
      · obtain rfl : k = t.length := by omega
        rename World => w1
        have hst := NumSt.first HK.out.2 (Nat.le_refl _) HK.out.1 hb1
        have hal : Below w1.heap.size w1 (w1.alloc (.cells #[.int .i64 (b : Int)] 3)) := (Below.refl _ _).alloc (Nat.le_refl _) _
        have hcx := (HK.out.1.below hal).cell (k := b) (by rw [length_fillL]; exact hb1)
        have hfx := (HK.out.1.below hal).frozen b
        have HST := Lib.hid hst
        clear hst hal
        go_wp2_with fail
        clear hcx hfx HK
        go_loopw [12, 13] (fun so i wr => ∃ k n : Nat, i = .int .i64 k ∧ k ≤ n ∧ k ≤ t.length ∧ Hid (n = (ordTo t b k).length) ∧ (∃ A c, so = .slice A n c ∧ Hid (NumSt w.heap.size t.length w wr so (ordTo t b k)))) (fun _ i _ => t.length - (intOf i).toNat)
        case atStart => exact ⟨0, 1, rfl, by omega, by omega, Lib.hid rfl, ⟨_, _, rfl, HST⟩⟩
        case round =>
          clear HST
          obtain ⟨k, n, rfl, hkn, hkt, HN, ⟨A, c', rfl, HST⟩⟩ := hrel
          have hk0 : (0 : Int) ≤ (k : Int) := Int.natCast_nonneg _
          have hC : Cos t.length (ordTo t b k) := Cos.ordTo HG.out hb0 hb2 k
          have hnl := length_le_of_nodup hC
          have hn3 : n ≤ t.length := by have := HN.out; omega
          by_cases hlt : k < n
          · have hx := hC.get (k := k) (by have := HN.out; omega)
            obtain ⟨r', hr'⟩ := Int.eq_ofNat_of_zero_le hx.1
            have hr1 : r' < t.length := by omega
            have hrl := HG.out.len r' hr1
            have HRL := Lib.hid hrl
            have hstep : ordTo t b (k + 1) = visitTo (t.row r') (2 * g) (ordTo t b k) := by
              rw [ordTo, if_pos (by have := HN.out; omega), hr']
              simp [hrl]
            have HSTEP := Lib.hid hstep
            have HCOS := Lib.hid hC
            obtain ⟨u, hu, hI⟩ := HT.out r' hr1
            have HU := Lib.hid hu
            have hI2 : IntsAt w u (t.row r') := hI
            obtain ⟨Au, cu, rfl, hu1, hu2, huc⟩ := hI2.open_
            obtain ⟨bu, ou, rfl, huc'⟩ := huc (by have := HG.out.g1; omega)
            have HUC := Lib.hid huc'
            have hr0 : (0 : Int) ≤ (r' : Int) := Int.natCast_nonneg _
            have hr2 : (r' : Int) < (t.length : Int) := by omega
            have hkn' : (k : Int) < (n : Int) := by omega
            have HX := Lib.hid hr'
            clear hu hI hI2 huc huc' hrl hstep hC hx hr'
            go_wp2_with fail
            go_loopw [12, 14] (fun so i wr2 => ∃ j m : Nat, i = .int .i64 j ∧ j ≤ 2 * g ∧ k < m ∧ Hid (m = (visitTo (t.row r') j (ordTo t b k)).length) ∧
              (∃ A c, so = .slice A m c ∧ Hid (NumSt w.heap.size t.length w wr2 so (visitTo (t.row r') j (ordTo t b k))))) (fun _ i _ => 2 * g - (intOf i).toNat)
            case atStart => exact ⟨0, n, rfl, by omega, hlt, HN, ⟨_, _, rfl, HST⟩⟩
            case round =>
              obtain ⟨j, m, rfl, hj, hkm, HM, ⟨A6, c6, rfl, HS⟩⟩ := hrel
              have hj0 : (0 : Int) ≤ (j : Int) := Int.natCast_nonneg _
              by_cases hjl : j < 2 * g
              · have hjl3 : (j : Int) < 2 * (g : Int) := by omega
                have hjl2 : j < (t.row r').length := by have := HRL.out; omega
                have hjl4 : (j : Int) < ((t.row r').length : Int) := by omega
                have hcs := HUC.out j hjl2
                have hcs' := (HS.out.below.cell (p := ⟨bu, ou + j, none⟩) (World.block_lt_of_cell? w _ hcs)).trans hcs
                have hu3 := (HS.out.below.cell (p := ⟨bt, ot + r', none⟩) (World.block_lt_of_cell? w _ HU.out)).trans HU.out
                have hbd := HP.out r' hr1 j hjl
                have hbd' : 0 ≤ (t.row r').getD j 0 ∧ (t.row r').getD j 0 < t.length := hbd
                have HCJ : Cos t.length (visitTo (t.row r') j (ordTo t b k)) := HCOS.out.visitTo (fun c hc => (HG.out.bd r' hr1 c (by have := HRL.out; omega)).2) (by omega)
                have hml := length_le_of_nodup HCJ
                have hoI := HS.out.ord.ints (fits_cos HCJ (by omega))
                obtain ⟨A5, c5, e5, he1, he2, he⟩ := hoI.open_
                obtain ⟨rfl, -, rfl⟩ := Value.slice.inj e5
                obtain ⟨b5, o5, rfl, hoc⟩ := he (by have := HM.out; omega)
                have hock := hoc k (by have := HM.out; omega)
                have hgk : (visitTo (t.row r') j (ordTo t b k)).getD k 0 = (r' : Int) := by
                  rw [pre_get (visitTo_pre (t.row r') j (ordTo t b k)) (by have := HN.out; omega), HX.out]
                rw [hgk] at hock
                have hkm' : (k : Int) < (m : Int) := by omega
                have HSJ : Hid (visitTo (t.row r') (j + 1) (ordTo t b k) = visit (visitTo (t.row r') j (ordTo t b k)) ((t.row r').getD j 0)) := Lib.hid rfl
                clear hcs hbd hgk hoc he e5 hoI HCJ
                generalize (t.row r').getD j 0 = s at *
                obtain ⟨s', rfl⟩ := Int.eq_ofNat_of_zero_le hbd'.1
                have hs' : s' < t.length := by omega
                have hs0 : (0 : Int) ≤ (s' : Int) := Int.natCast_nonneg _
                have hs1 : (s' : Int) < (t.length : Int) := by omega
                have hnc := HS.out.num.cell (k := s') (by rw [length_numL]; exact hs')
                have hnf := HS.out.num.frozen s'
                generalize visitTo (t.row r') j (ordTo t b k) = oj at *
                by_cases hin : (s' : Int) ∈ oj
                · rw [numL_in hs' hin] at hnc
                  have hnb := @numOf_bd oj (s' : Int)
                  have hnb1 := hnb.1
                  have hsj := HSJ.out
                  rw [show visit oj (s' : Int) = oj by unfold visit; simp [hin]] at hsj
                  rw [← hsj] at HS HM
                  have HNB := Lib.hid hnb
                  clear hsj hnb hbd'
                  generalize numOf oj (s' : Int) = y at *
                  go_wp2_with fail
                  go_roundw
                  case rel => exact ⟨j + 1, m, by go_num, by omega, hkm, HM, ⟨_, _, rfl, HS⟩⟩
                  case measure => simp [intOf]; omega
                · rw [numL_out hs' hin] at hnc
                  have hsj := HSJ.out
                  rw [show visit oj (s' : Int) = oj ++ [(s' : Int)] by unfold visit; simp [hin]] at hsj
                  obtain ⟨A8, c8, w8, hr8, hS8⟩ := HS.out.visit hs' hin (by omega)
                  rw [← hsj] at hS8
                  rw [← HM.out] at hr8 hS8
                  have HM8 : Hid (m + 1 = (visitTo (t.row r') (j + 1) (ordTo t b k)).length) := Lib.hid (by rw [hsj, List.length_append, HM.out]; rfl)
                  have HR8 := Lib.hid hr8
                  have HS8 := Lib.hid hS8
                  clear hsj hr8 hS8 hbd'
                  go_wp2_with ((with_reducible refine wpList_sel 92 ?_); refine wpList_val rfl (r_app (.tmp 89) (.tmp 91) 22 rfl rfl rfl HR8.out) ?_)
                  go_roundw
                  case rel => exact ⟨j + 1, m + 1, by go_num, by omega, by omega, HM8, ⟨_, _, rfl, HS8⟩⟩
                  case measure => simp [intOf]; omega
              · obtain rfl : j = 2 * g := by omega
                have hmk : k + 1 ≤ m := hkm
                have HM8 : Hid (m = (ordTo t b (k + 1)).length) := Lib.hid (by rw [HSTEP.out]; exact HM.out)
                rw [← HSTEP.out] at HS
                go_wp2_with fail
                go_roundw
                case rel => exact ⟨k + 1, m, by go_num, hmk, by omega, HM8, ⟨_, _, rfl, HS⟩⟩
                case measure => simp [intOf]; omega
          · obtain rfl : k = n := by omega
            rename World => w2
            have hend : ord t b = ordTo t b k := ord_end (by have := HN.out; omega) hkt
            rw [← hend] at HST HN hC
            have HEND := Lib.hid hend
            clear hend
            by_cases hkl : k < t.length
            · have hkl' : (k : Int) < (t.length : Int) := by omega
              have HZ := Lib.hid (HE1.out (std_short (b := (b : Int)) (t := t) (by rw [← HN.out]; omega)))
              have HBW := Lib.hid HST.out.below
              go_wp2_with fail
              go_ret2
              exact ⟨⟨.slice none 0 0, ret_of2 rfl (by rw [HZ.out]), by rw [HZ.out]; exact TabB.nil⟩, HBW.out⟩
            · obtain rfl : k = t.length := by omega
              have hoF : (ord t b).length ≤ 1000000 := by have := HN.out; omega
              have hoI := HST.out.ord.ints (fits_cos hC (by omega))
              obtain ⟨A5, c5, e5, he1, he2, he⟩ := hoI.open_
              obtain ⟨rfl, -, rfl⟩ := Value.slice.inj e5
              obtain ⟨b5, o5, rfl, hoc⟩ := he (by have := HN.out; omega)
              have HOC := Lib.hid hoc
              have HNUM := Lib.hid HST.out.num
              have HBW := Lib.hid HST.out.below
              have HFULL : Hid (∀ r : Nat, r < t.length → (r : Int) ∈ ord t b) := Lib.hid (mem_of_full hC HN.out.symm)
              have HZ := Lib.hid (HE2.out _ (std_full HG.out hb0 hb2 HN.out.symm fun j hj c hc => by
                obtain ⟨x1, x2⟩ := hC.get (k := j) (by have := HN.out; omega)
                have h3 : ((ord t b).getD j 0).toNat < t.length := by omega
                rw [HG.out.len _ h3] at hc
                exact (HP.out _ h3 c hc).1))
              have HCOS := Lib.hid hC
              have HOF := Lib.hid hoF
              have hot := OutSt.nil 22 (Below.refl w2.heap.size w2)
              have HOT := Lib.hid hot
              clear hot hoF hoI he e5 hoc hC HST
              go_wp2_with fail
              go_loopw [16, 17] (fun su i wr => ∃ k : Nat, i = .int .i64 k ∧ k ≤ t.length ∧ ∃ F A c, su = .slice A k c ∧ Hid (OutSt 22 F w2 wr su (outTo (ord t b) t k))) (fun _ i _ => t.length - (intOf i).toNat)
              case atStart => exact ⟨0, rfl, by omega, _, none, 0, rfl, HOT⟩
              case round =>
                clear HOT
                obtain ⟨k, rfl, hk, F, A2, c2, rfl, HST⟩ := hrel
                have hk0 : (0 : Int) ≤ (k : Int) := Int.natCast_nonneg _
                by_cases hlt : k < t.length
                · have hlt' : (k : Int) < (t.length : Int) := by omega
                  have hx := HCOS.out.get (k := k) (by have := HN.out; omega)
                  obtain ⟨r', hr'⟩ := Int.eq_ofNat_of_zero_le hx.1
                  have hr1 : r' < t.length := by omega
                  have hrl := HG.out.len r' hr1
                  have HRL := Lib.hid hrl
                  obtain ⟨u, hu, hI⟩ := HT.out r' hr1
                  have HU := Lib.hid hu
                  have hI2 : IntsAt w u (t.row r') := hI
                  obtain ⟨Au, cu, rfl, hu1, hu2, huc⟩ := hI2.open_
                  obtain ⟨bu, ou, rfl, huc'⟩ := huc (by have := HG.out.g1; omega)
                  have HUC := Lib.hid huc'
                  have hr0 : (0 : Int) ≤ (r' : Int) := Int.natCast_nonneg _
                  have hr2 : (r' : Int) < (t.length : Int) := by omega
                  have HX := Lib.hid hr'
                  have HRN := Lib.hid HST.out.row_nil
                  clear hu hI hI2 huc huc' hrl hx hr'
                  go_wp2_with fail
                  go_loopw [18, 19] (fun sr i wr2 => ∃ j : Nat, i = .int .i64 j ∧ j ≤ 2 * g ∧
                    (∃ A c, sr = .slice A j c ∧ Hid (OutSt2 22 F w2 wr2 (.slice A2 k c2) sr (outTo (ord t b) t k) (((t.row r').take j).map (numOf (ord t b)))))) (fun _ i _ => 2 * g - (intOf i).toNat)
                  case atStart => exact ⟨0, rfl, by omega, none, 0, rfl, HRN⟩
                  case round =>
                    clear HRN
                    obtain ⟨j, rfl, hj, A6, c6, rfl, HS⟩ := hrel
                    have hj0 : (0 : Int) ≤ (j : Int) := Int.natCast_nonneg _
                    by_cases hjl : j < 2 * g
                    · have hjl3 : (j : Int) < 2 * (g : Int) := by omega
                      have hjl2 : j < (t.row r').length := by have := HRL.out; omega
                      have hjl4 : (j : Int) < ((t.row r').length : Int) := by omega
                      have hBW2 := HBW.out.trans (HS.out.st.below.mono HBW.out.size)
                      have hcs := HUC.out j hjl2
                      have hcs' := (hBW2.cell (p := ⟨bu, ou + j, none⟩) (World.block_lt_of_cell? w _ hcs)).trans hcs
                      have hu3 := (hBW2.cell (p := ⟨bt, ot + r', none⟩) (World.block_lt_of_cell? w _ HU.out)).trans HU.out
                      have hock := HOC.out k (by have := HN.out; omega)
                      rw [HX.out] at hock
                      have hock' := (HS.out.st.below.cell (p := ⟨b5, o5 + k, none⟩) (World.block_lt_of_cell? w2 _ hock)).trans hock
                      have hbd := HP.out r' hr1 j hjl
                      have hbd' : 0 ≤ (t.row r').getD j 0 ∧ (t.row r').getD j 0 < t.length := hbd
                      have HXJ := Lib.hid (map_take_succ (f := numOf (ord t b)) hjl2)
                      have hxl : (((t.row r').take j).map (numOf (ord t b))).length = j := by rw [List.length_map, List.length_take]; omega
                      clear hcs hbd hock hBW2
                      generalize (t.row r').getD j 0 = s at *
                      generalize ((t.row r').take j).map (numOf (ord t b)) = xj at *
                      obtain ⟨s', rfl⟩ := Int.eq_ofNat_of_zero_le hbd'.1
                      have hs' : s' < t.length := by omega
                      have hs0 : (0 : Int) ≤ (s' : Int) := Int.natCast_nonneg _
                      have hs1 : (s' : Int) < (t.length : Int) := by omega
                      have hnc := (HNUM.out.below HS.out.st.below).cell (k := s') (by rw [length_numL]; exact hs')
                      rw [numL_in hs' (HFULL.out s' hs')] at hnc
                      have hrow2 : OutSt2 22 F w2 wr (.slice A2 k c2) (.slice A6 j c6) (outTo (ord t b) t k) xj := HS.out
                      obtain ⟨A8, c8, w8, hr8, hS8⟩ := hrow2.add (by decide) 22 Tryz.underlying22 (numOf (ord t b) (s' : Int)) (by omega)
                      rw [hxl] at hr8 hS8
                      rw [← HXJ.out] at hS8
                      have HR8 := Lib.hid hr8
                      have HS8 := Lib.hid hS8
                      generalize numOf (ord t b) (s' : Int) = y at *
                      clear hr8 hS8 hxl hbd' hrow2
                      go_wp2_with ((with_reducible refine wpList_sel 125 ?_); refine wpList_val rfl (r_app (.tmp 110) (.tmp 124) 22 rfl rfl rfl HR8.out) ?_)
                      go_roundw
                      case rel => exact ⟨j + 1, by go_num, by omega, _, _, rfl, HS8⟩
                      case measure => simp [intOf]; omega
                    · obtain rfl : j = 2 * g := by omega
                      rename World => wy
                      have hS := HS.out
                      rw [List.take_of_length_le (by rw [HRL.out]; exact Nat.le_refl _)] at hS
                      obtain ⟨A8, c8, w8, hr8, hS8⟩ := hS.done (by decide) Tryz.underlying29 info24p (fits_num HOF.out) (by rw [length_outTo]; omega)
                      rw [length_outTo] at hr8 hS8
                      have he8 : outTo (ord t b) t (k + 1) = outTo (ord t b) t k ++ [(t.row r').map (numOf (ord t b))] := by rw [outTo_succ, HX.out]; rfl
                      rw [← he8] at hS8
                      have HR8 := Lib.hid hr8
                      have HS8 := Lib.hid hS8
                      clear hr8 hS8 hS he8
                      go_wp2_with ((with_reducible refine wpList_sel 129 ?_); refine wpList_val rfl (r_app (.tmp 126) (.tmp 128) 29 rfl rfl rfl HR8.out) ?_)
                      go_roundw
                      case rel => exact ⟨k + 1, by go_num, by omega, _, _, _, rfl, HS8⟩
                      case measure => simp [intOf]; omega
                · obtain rfl : k = t.length := by omega
                  have HT2 := Lib.hid (HST.out.tabB.mono HBW.out.size)
                  have HBW3 := Lib.hid (HBW.out.trans (HST.out.below.mono HBW.out.size))
                  go_wp2_with fail
                  go_ret2
                  exact ⟨⟨_, ret_of2 rfl (by rw [HZ.out]), by rw [HZ.out]; exact HT2.out⟩, HBW3.out⟩
end Go.Proofs
namespace Go.Proofs
open Go.RowKit Go.Shelf Go.Proofs.Ct Go.Maps
def nats (l : List Nat) : List Int := l.map Int.ofNat
theorem length_nats (l : List Nat) : (nats l).length = l.length := by simp [nats]
theorem nats_app (a b : List Nat) : nats (a ++ b) = nats a ++ nats b := by simp [nats]
theorem nats_getD (l : List Nat) (k : Nat) : (nats l).getD k 0 = (l.getD k 0 : Int) := by
  unfold nats
  by_cases h : k < l.length
  · simp [List.getD_eq_getElem?_getD, h]
  · simp [List.getD_eq_getElem?_getD, List.getElem?_eq_none (by omega : l.length ≤ k)]
theorem ownI_set {base : Nat} {w : World} {v : Value} {xs : List Int} (h : OwnI base w v xs) {g k : Nat} (hg : v.ownBlock = some g) (_hk : k < xs.length) (z : Int) : OwnI base (w.setCell ⟨g, k, none⟩ (.int .i64 z)) v (xs.set k z) := by
  obtain ⟨hl, h⟩ := h
  rcases h with ⟨rfl, -⟩ | ⟨g', cap, cur, rfl, hb, hc, hn, hm, hs, ht⟩
  · cases hg
  · obtain rfl : g' = g := Option.some.inj hg
    refine ⟨by simp [ints], .inr ⟨g', cap, cur.setIfInBounds k (.int .i64 z), by simp, hb, by simp [World.setCell, Array.getElem?_modify, hc], by simpa using hn, hm, by simpa using hs, ?_⟩⟩
    rw [Array.toList_setIfInBounds, List.take_set, List.length_set, ht]
    simp [ints, List.map_set]
theorem ownI_cell {base : Nat} {w : World} {v : Value} {xs : List Int} (h : OwnI base w v xs) (hn : 0 < xs.length) : ∃ g c, v = .slice (some ⟨g, 0, none⟩) xs.length c ∧ base ≤ g ∧ g < w.heap.size ∧ (∀ k, k < xs.length → w.cell? ⟨g, k, none⟩ = some (.int .i64 (xs.getD k 0))) ∧ ∀ k, w.frozen? ⟨g, k, none⟩ = false := by
  obtain ⟨hl, h⟩ := h
  rcases h with ⟨rfl, h0⟩ | ⟨g, cap, cur, rfl, hb, hc, h1, hm, hs, ht⟩
  · omega
  · refine ⟨g, cap, rfl, hb, (Array.getElem?_eq_some_iff.1 hc).1, fun k hk => ?_, fun k => by simp [World.frozen?, hc]⟩
    rw [cell_of_row _ _ _ _ _ _ hc]
    have h2 : (cur.toList.take (xs.length * 1))[k]? = (ints xs)[k]? := by rw [ht]
    rw [List.getElem?_take, if_pos (by omega)] at h2
    simpa [ints, hk, List.getD_eq_getElem?_getD] using h2
theorem ownI_at {base : Nat} {w : World} {g n c : Nat} {xs : List Int} (h : OwnI base w (.slice (some ⟨g, 0, none⟩) n c) xs) {k : Nat} (hk : k < xs.length) : w.cell? ⟨g, k, none⟩ = some (.int .i64 (xs.getD k 0)) ∧ w.frozen? ⟨g, k, none⟩ = false := by
  obtain ⟨g', c', e, -, -, h1, h2⟩ := ownI_cell h (by omega)
  have e1 : g = g' := by have := congrArg Value.ownBlock e; simpa [Value.ownBlock] using this
  subst e1
  exact ⟨h1 k hk, h2 k⟩
structure CoreM (base : Nat) (w : World) (s : St) (P : List Int) (vr vp vq : Value) (bl cs : Nat → Nat) : Prop where
  out : w.ownsRow base 22 1 vr s.t.length ((List.range s.t.length).map fun i => .slice (some ⟨bl i, 0, none⟩) (s.t.row i).length (cs i))
  row : ∀ i, i < s.t.length → base ≤ bl i ∧ XsAt w (bl i) (s.t.row i) ∧ (s.t.row i).length ≤ cs i ∧ cs i ≤ 9223372036854775807
  inj : ∀ i j, i < s.t.length → j < s.t.length → bl i = bl j → i = j
  par : OwnI base w vp P
  que : OwnI base w vq (nats s.q)
  sepP : ∀ i, i < s.t.length → vp.ownBlock ≠ some (bl i)
  sepQ : ∀ i, i < s.t.length → vq.ownBlock ≠ some (bl i)
  pq : ∀ r, vp.ownBlock = some r → vq.ownBlock ≠ some r
  root : Roots P s
section
variable {base : Nat} {w w' : World} {s : St} {P : List Int} {vr vp vq : Value} {bl cs : Nat → Nat}
theorem CoreM.keep (h : CoreM base w s P vr vp vq bl cs) (hk : ∀ k C e, base ≤ k → w.heap[k]? = some (.cells C e (0, 0)) → (e = 3 ∨ e = 22) → w'.heap[k]? = w.heap[k]?) : CoreM base w' s P vr vp vq bl cs := by
  refine ⟨owns_keep h.out fun r hr => ?_, fun i hi => ?_, h.inj, owns_keep h.par fun r hr => ?_, owns_keep h.que fun r hr => ?_, h.sepP, h.sepQ, h.pq, h.root⟩
  · obtain ⟨a, C, hC⟩ := owns_block h.out r hr
    exact hk r C 22 a hC (.inr rfl)
  · obtain ⟨a, b, c⟩ := h.row i hi
    obtain ⟨C, hC, -⟩ := id b
    exact ⟨a, b.keep (hk _ C 3 a hC (.inl rfl)), c⟩
  · obtain ⟨a, C, hC⟩ := owns_block h.par r hr
    exact hk r C 3 a hC (.inl rfl)
  · obtain ⟨a, C, hC⟩ := owns_block h.que r hr
    exact hk r C 3 a hC (.inl rfl)
theorem CoreM.below (h : CoreM base w s P vr vp vq bl cs) (hb : Below w.heap.size w w') : CoreM base w' s P vr vp vq bl cs :=
  h.keep fun k _C _e _ hC _ => hb.block k (Array.getElem?_eq_some_iff.1 hC).1
theorem CoreM.other (h : CoreM base w s P vr vp vq bl cs) {b : Nat} {C0 : Array Value} {T : TypeId} (hb : w.heap[b]? = some (.cells C0 T (0, 0))) (h3 : T ≠ 3) (h24 : T ≠ 22) (k : Nat) (v : Value) : CoreM base (w.setCell ⟨b, k, none⟩ v) s P vr vp vq bl cs :=
  h.keep fun j C e _ hC he => Below.heap_setCell w ⟨b, k, none⟩ v j fun e' => by
    have e'' : j = b := e'
    rw [e'', hb] at hC
    cases hC
    rcases he with he | he <;> simp_all
theorem CoreM.len (h : CoreM base w s P vr vp vq bl cs) : P.length = s.t.length := h.root.len
theorem CoreM.at_ (h : CoreM base w s P vr vp vq bl cs) {r c : Nat} (hr : r < s.t.length) (hc : c < (s.t.row r).length) : ∃ g cap, vr = .slice (some ⟨g, 0, none⟩) s.t.length cap ∧ w.cell? ⟨g, r, none⟩ = some (.slice (some ⟨bl r, 0, none⟩) (s.t.row r).length (cs r)) ∧ w.cell? ⟨bl r, c, none⟩ = some (.int .i64 (s.t.at r c)) ∧ w.frozen? ⟨bl r, c, none⟩ = false := by
  obtain ⟨-, hX, -⟩ := h.row r hr
  obtain ⟨hl, ho⟩ := h.out
  rcases ho with ⟨-, h0⟩ | ⟨g, cap, cur, rfl, hb, hC, h1, hm, hs, ht⟩
  · omega
  · refine ⟨g, cap, rfl, ?_, hX.cell hc, hX.frozen c⟩
    rw [cell_of_row _ _ _ _ _ _ hC]
    have h2 : (cur.toList.take (s.t.length * 1))[r]? = ((List.range s.t.length).map fun i => Value.slice (some ⟨bl i, 0, none⟩) (s.t.row i).length (cs i))[r]? := by rw [ht]
    rw [List.getElem?_take, if_pos (by omega)] at h2
    simpa [hr] using h2
theorem CoreM.set (h : CoreM base w s P vr vp vq bl cs) {r c : Nat} (hr : r < s.t.length) (hc : c < (s.t.row r).length) (z : Int) : CoreM base (w.setCell ⟨bl r, c, none⟩ (.int .i64 z)) { s with t := set2 s.t r c z } P vr vp vq bl cs := by
  have hne : ∀ k, k ≠ bl r → (w.setCell ⟨bl r, c, none⟩ (.int .i64 z)).heap[k]? = w.heap[k]? := fun k hk => Below.heap_setCell w ⟨bl r, c, none⟩ _ k hk
  obtain ⟨-, hXr, -⟩ := h.row r hr
  obtain ⟨Cr, hCr, -⟩ := id hXr
  refine ⟨?_, fun i hi => ?_, fun i j hi hj => h.inj i j (by simpa [length_set2] using hi) (by simpa [length_set2] using hj), owns_keep h.par fun k hk => hne k (fun e => h.sepP r hr (by rw [hk, e])), owns_keep h.que fun k hk => hne k (fun e => h.sepQ r hr (by rw [hk, e])), fun i hi => h.sepP i (by simpa [length_set2] using hi), fun i hi => h.sepQ i (by simpa [length_set2] using hi), h.pq, h.root.of_rep (length_set2 _ _ _ _) rfl⟩
  · simp only [length_set2, rowlen_set2]
    refine owns_keep h.out fun k hk => hne k fun e => ?_
    obtain ⟨-, C, hC⟩ := owns_block h.out k hk
    rw [e, hCr] at hC
    cases hC
  · simp only [length_set2] at hi
    obtain ⟨a, b, d⟩ := h.row i hi
    simp only [rowlen_set2]
    refine ⟨a, ?_, d⟩
    rw [row_set2]
    by_cases e : r = i
    · subst e
      rw [if_pos ⟨rfl, hr⟩]
      exact hXr.set hc z
    · rw [if_neg (fun h' => e h'.1)]
      exact b.keep (hne _ fun e' => e (h.inj r i hr hi e'.symm))
theorem CoreM.setP (h : CoreM base w s P vr vp vq bl cs) {g x : Nat} (hg : vp.ownBlock = some g) (hx : x < P.length) (z : Int) {s' : St} (ht : s'.t = s.t) (hq : s'.q = s.q) (hroot : Roots (P.set x z) s') : CoreM base (w.setCell ⟨g, x, none⟩ (.int .i64 z)) s' (P.set x z) vr vp vq bl cs := by
  have hne : ∀ k, k ≠ g → (w.setCell ⟨g, x, none⟩ (.int .i64 z)).heap[k]? = w.heap[k]? := fun k hk => Below.heap_setCell w ⟨g, x, none⟩ _ k hk
  obtain ⟨-, Cg, hCg⟩ := owns_block h.par g hg
  refine ⟨?_, fun i hi => ?_, by rw [ht]; exact h.inj, ownI_set h.par hg hx z, by rw [hq]; exact owns_keep h.que fun k hk => hne k (fun e => h.pq g hg (by rw [hk, e])), by rw [ht]; exact h.sepP, by rw [ht]; exact h.sepQ, h.pq, hroot⟩
  · rw [ht]
    refine owns_keep h.out fun k hk => hne k fun e => ?_
    obtain ⟨-, C, hC⟩ := owns_block h.out k hk
    rw [e, hCg] at hC
    cases hC
  · rw [ht] at hi ⊢
    obtain ⟨a, b, d⟩ := h.row i hi
    exact ⟨a, b.keep (hne _ fun e => h.sepP i hi (by rw [hg, e])), d⟩
theorem CoreM.pushQ (h : CoreM base w s P vr vp vq bl cs) (hbw : base ≤ w.heap.size) (x : Nat) (hl : s.q.length ≤ 1000000) : ∃ A' c' w', (Builtin.append_ #[22, 22] 22 #[vq, .slice (some ⟨w.heap.size, 0, none⟩) 1 1]).run Tryz.prog (w.alloc (.cells #[.int .i64 (x : Int)] 3)) = .ok (.slice A' (s.q.length + 1) c') w' ∧
    CoreM base w' { s with q := s.q ++ [x] } P vr vp (.slice A' (s.q.length + 1) c') bl cs ∧ w.grownBy w' vq.ownBlock := by
  have hq := h.que
  obtain ⟨A', c', w', hr, ho, hg, hw⟩ := push_int 22 22 Tryz.underlying22 w base vq (nats s.q) hq (x : Int) (by rw [length_nats]; omega) hbw
  rw [length_nats] at hr ho hw
  have hne : ∀ k C e, w.heap[k]? = some (.cells C e (0, 0)) → vq.ownBlock ≠ some k → w'.heap[k]? = w.heap[k]? := fun k C e hC hn => hg.block k (Array.getElem?_eq_some_iff.1 hC).1 (Ne.symm hn)
  have hnewb : ∀ r, (Value.slice A' (s.q.length + 1) c').ownBlock = some r → vq.ownBlock = some r ∨ w.heap.size ≤ r := fun r hr => by
    rcases hw with hw | ⟨r', hr', hge⟩
    · exact .inl (by rw [← hw]; exact hr)
    · rw [hr] at hr'
      cases hr'
      exact .inr hge
  refine ⟨A', c', w', hr, ⟨owns_keep h.out fun k hk => ?_, fun i hi => ?_, h.inj, owns_keep h.par fun k hk => ?_, ?_, h.sepP, fun i hi e => ?_, fun r hr e => ?_, h.root.of_rep rfl rfl⟩, hg⟩
  · obtain ⟨-, C, hC⟩ := owns_block h.out k hk
    refine hne k C 22 hC fun e => ?_
    obtain ⟨-, C', hC'⟩ := owns_block hq k e
    rw [hC] at hC'
    cases hC'
  · obtain ⟨a, b, d⟩ := h.row i hi
    obtain ⟨C, hC, -⟩ := id b
    exact ⟨a, b.keep (hne _ C 3 hC (h.sepQ i hi)), d⟩
  · obtain ⟨-, C, hC⟩ := owns_block h.par k hk
    exact hne k C 3 hC (h.pq k hk)
  · show OwnI base w' _ (nats (s.q ++ [x]))
    rw [nats_app]
    exact ho
  · obtain ⟨-, b, -⟩ := h.row i hi
    rcases hnewb _ e with e | e
    · exact h.sepQ i hi e
    · exact absurd b.lt (by omega)
  · rcases hnewb _ e with e | e
    · exact h.pq r hr e
    · exact absurd (owns_lt h.par hr) (by omega)
end
end Go.Proofs
