/- coset.Standard; cayleyref18.Standard; Appending a readable list; slices.Concat; word.Invert, Mul and cayleyref02.Invert, Mul; word.Invert, slices.Concat, word.Mul; Parents and their roots, plainly; The state of an enumeration in memory: rows that are written, parents, a queue; Maps keyed by pairs of numbers; The system of a table in memory: its map of numbers and its list of pairs; The methods of the system: step, number, grows. -/
import Derived.Test.YtmpnengjboabcaaTpCS6
import Derived.Test.YtmpnengjboabcaaTpCS3
import Derived.DeepKeys4
import Derived.MapViews
import Derived.WideKeyArgs
import Derived.Test.YtmpnengjboabcaaTpCS1
namespace Go.Proofs
open Go.RowKit Go.Shelf Go.Proofs.Ct
/-- u reads as xs by blocks from base on -/
def TabB (base : Nat) (w : World) (u : Value) (xs : List (List Int)) : Prop := ∀ w' : World, (∀ k, base ≤ k → k < w.heap.size → w'.heap[k]? = w.heap[k]?) → Tab w' u xs
theorem TabB.at_ {base : Nat} {w : World} {u : Value} {xs : List (List Int)} (h : TabB base w u xs) : Tab w u xs := h w fun _ _ _ => rfl
theorem TabB.nil {base : Nat} {w : World} : TabB base w (.slice none 0 0) [] := fun _ _ => tab_nil
theorem TabB.keep {base : Nat} {w w' : World} {u : Value} {xs : List (List Int)} (h : TabB base w u xs) (hs : w.heap.size ≤ w'.heap.size) (hk : ∀ k, base ≤ k → k < w.heap.size → w'.heap[k]? = w.heap[k]?) : TabB base w' u xs := fun w'' h'' => h w'' fun k h1 h2 => (h'' k h1 (by omega)).trans (hk k h1 h2)
theorem StdSt.tabB {bm : Nat} {F : Nat → Prop} {w0 wr : World} {vo vout : Value} {o : List Int} {rows : Tb} (h : StdSt bm F w0 wr vo vout o rows) : TabB w0.heap.size wr vout rows := fun w' hw => by
  have hub := h.out.block
  exact (h.out.keep (G := F) (fun r hr => hw r (hub r hr).1 (by obtain ⟨-, C, hC⟩ := hub r hr; exact (Array.getElem?_eq_some_iff.1 hC).1)) (fun k hk => hw k (h.fs k hk).1 (h.fs k hk).2.1) (fun _ h => h)).tab
def StdPost (g : Int) (t : Tb) (b : Int) (w : World) (e : Ending) (w' : World) : Prop := (∃ u, e = .returned (.tuple #[u, .int .i64 (stdE g t b).2]) ∧ Tab w' u (stdE g t b).1) ∧ Below w.heap.size w w'
def StdPostB (g : Int) (t : Tb) (b : Int) (w : World) (e : Ending) (w' : World) : Prop := (∃ u, e = .returned (.tuple #[u, .int .i64 (stdE g t b).2]) ∧ TabB w.heap.size w' u (stdE g t b).1) ∧ Below w.heap.size w w'
theorem fits_cos {n : Nat} {l : List Int} (h : Cos n l) (hn : n ≤ 1000000) : Fits l := fun x hx => by
  have := h.bd x hx
  omega
theorem fits_num {l : List Int} {row : List Int} (hl : l.length ≤ 1000000) : Fits (row.map (numOf l)) := fun x hx => by
  obtain ⟨y, -, rfl⟩ := List.mem_map.1 hx
  have := @numOf_bd l y
  omega
theorem StdSt.first {w0 w : World} {bm : Nat} {b : Int} (hB : Below w0.heap.size w0 w) (hbm : w0.heap.size ≤ bm) (hm : MapI w bm [b]) (_hb : I64 b) :
    StdSt bm (fun _ => False) w0 ((w.alloc (.cells #[.int .i64 b] 3)).alloc (.cells #[] 24)) (.slice (some ⟨w.heap.size, 0, none⟩) 1 1) (.slice (some ⟨w.heap.size + 1, 0, none⟩) 0 0) [b] [] := by
  have h1 := hB.size
  have hg : w.grownBy ((w.alloc (.cells #[.int .i64 b] 3)).alloc (.cells #[] 24)) none := (World.grownBy_alloc w _ none).trans (World.grownBy_alloc _ _ none)
  have e1 := allocs_get [.cells #[.int .i64 b] 3, .cells #[] 24] w 0 _ rfl
  have e2 := allocs_get [.cells #[.int .i64 b] 3, .cells #[] 24] w 1 _ rfl
  refine ⟨hB.grown hg h1 (fun k hk => by cases hk), hbm, hm.kept hg (by simp), ⟨rfl, .inr ⟨w.heap.size, 1, #[.int .i64 b], rfl, h1, e1, Nat.le_refl _, by simp [maxLen], rfl, rfl⟩⟩, ⟨[], ⟨rfl, .inr ⟨w.heap.size + 1, 0, #[], rfl, by omega, e2, Nat.le_refl _, by simp, rfl, rfl⟩⟩, RowsF.nil _ _⟩, fun k hk => hk.elim⟩
set_option maxRecDepth 100000 in
set_option maxHeartbeats 2000000 in
theorem std48_goodB (w : World) (v : Value) (g : Nat) (t : Tb) (b : Int) (ht : Tab w v t) (hg : TGood g t) (hb0 : 0 ≤ b) (hb1 : b < t.length) : Calls Try.prog 56 #[.int .i64 g, v, .int .i64 b] w (StdPostB g t b w) := by
  have hck := check_of_good hg
  have HC : Hid (Calls Try.prog 51 #[.int .i64 (g : Int), v] w fun e w' => e = .returned (.tuple #[.int .i64 0, .int .i64 (-1)]) ∧ Below w.heap.size w w') :=
    Lib.hid ((check43_any w v g t ht).mono fun e w' ⟨h2, h3⟩ => by rw [hck] at h2; exact ⟨h2, h3⟩)
  have HE1 : Hid (std t b = none → stdE g t b = ([], 13)) := Lib.hid fun h => by unfold stdE; rw [hck, if_neg (by simp), if_neg (by omega), h]
  have HE2 : Hid (∀ s, std t b = some s → stdE g t b = (s, 0)) := Lib.hid fun s h => by unfold stdE; rw [hck, if_neg (by simp), if_neg (by omega), h]
  obtain ⟨A, c, rfl, hc1, hc2, hc⟩ := ht.open_
  have hn2 := hg.n2
  obtain ⟨bt, ot, rfl, hcell⟩ := hc (by omega)
  have HT := Lib.hid hcell
  have HG := Lib.hid hg
  have hg16 := hg.g16
  have hg16' : (g : Int) ≤ 16 := by omega
  have hg0 : (0 : Int) ≤ (g : Int) := Int.natCast_nonneg _
  have hbI : I64 b := ⟨by omega, by omega⟩
  have HBI := Lib.hid hbI
  have hmm : ∀ w, (Instr.makeMap 141 none).run Try.prog w = .ok (.map (some w.heap.size)) (w.alloc (.map #[] 0)) := fun _ => rfl
  clear hcell hc ht hck hg hbI
  go_enter Try.func56, Try.ntmps56
  go_wp2_with (first
    | (go_at_call 51
       (refine HC.out.mono ?_)
       rintro e w1 ⟨rfl, hb⟩
       have HB := Lib.hid hb
       obtain ⟨w2, hr2, hm2, hgr2⟩ := (MapI.made w1).put HBI.out (by simp) (by simp)
       have HR2 := Lib.hid hr2
       have HM2 := Lib.hid hm2
       have HB2 : Hid (Below w.heap.size w w2) := Lib.hid ((hb.alloc hb.size _).grown hgr2 (by have := hb.size; simp; omega) (fun k hk => by cases hk; exact hb.size))
       have HBM : Hid (w.heap.size ≤ w1.heap.size) := Lib.hid hb.size
       clear hb hr2 hm2 hgr2)
    | ((with_reducible refine wpList_selIns 141 36 37 _ ?_); refine wpList_skip rfl (r_ins 141 (.tmp 36) (.tmp 37) _ rfl rfl rfl rfl HR2.out) ?_))
  have hbx : I64 b := HBI.out
  have hst := StdSt.first HB2.out HBM.out HM2.out HBI.out
  have HST := Lib.hid hst
  clear hst hbx
  go_loopw [11, 12, 13] (fun so su i wr => ∃ k n : Nat, i = .int .i64 k ∧ k ≤ n ∧ k ≤ t.length ∧ Hid (n = (ordTo t b k).length) ∧ (∃ F A c A2 c2, so = .slice A n c ∧ su = .slice A2 k c2 ∧ Hid (StdSt w1.heap.size F w wr so su (ordTo t b k) (outTo (ord t b) t k))) ∧
    Hid (∀ j, j < k → ∀ c, c < (t.row ((ord t b).getD j 0).toNat).length → 0 ≤ (t.row ((ord t b).getD j 0).toNat).getD c 0)) (fun _ _ i _ => t.length - (intOf i).toNat)
  case atStart => exact ⟨0, 1, rfl, by omega, by omega, Lib.hid rfl, ⟨_, _, _, _, _, rfl, rfl, HST⟩, Lib.hid fun j hj => absurd hj (by omega)⟩
  case round =>
    clear HST
    obtain ⟨k, n, rfl, hkn, hkt, HN, ⟨F, A, c', A2, c2, rfl, rfl, HST⟩, HNG⟩ := hrel
    have hk0 : (0 : Int) ≤ (k : Int) := Int.natCast_nonneg _
    by_cases hlt : k < n
    · have hC : Cos t.length (ordTo t b k) := Cos.ordTo HG.out hb0 hb1 k
      have hnl := length_le_of_nodup hC
      have hn3 : n ≤ t.length := by have := HN.out; omega
      have hx := hC.get (k := k) (by have := HN.out; omega)
      obtain ⟨r', hr'⟩ := Int.eq_ofNat_of_zero_le hx.1
      have hr1 : r' < t.length := by omega
      have hrl := HG.out.len r' hr1
      have HRL := Lib.hid hrl
      have hord : (ord t b).getD k 0 = (r' : Int) := by
        rw [show ord t b = ordTo t b t.length from rfl, pre_get (ordTo_mono t b hkt) (by have := HN.out; omega), hr']
      have HORD := Lib.hid hord
      have hstep : ordTo t b (k + 1) = visitTo (t.row r') (t.row r').length (ordTo t b k) := by
        rw [ordTo, if_pos (by have := HN.out; omega), hr']
        simp
      have hpre : visitTo (t.row r') (t.row r').length (ordTo t b k) <+: ord t b := by
        rw [← hstep]
        exact ordTo_mono t b (by have := HN.out; omega)
      have HSTEP := Lib.hid hstep
      have HPRE := Lib.hid hpre
      have HCOS := Lib.hid hC
      obtain ⟨A3, c3, w3, hr3, hS3⟩ := HST.out.start g hg16
      have hoI := hS3.st.ord.ints (fits_cos hC (by omega))
      obtain ⟨A5, c5, e5, he1, he2, he⟩ := hoI.open_
      obtain ⟨rfl, -, rfl⟩ := Value.slice.inj e5
      obtain ⟨b5, o5, rfl, hoc⟩ := he (by have := HN.out; omega)
      have hock := hoc k (by have := HN.out; omega)
      rw [hr'] at hock
      obtain ⟨u, hu, hI⟩ := HT.out r' hr1
      have hu3 := (hS3.st.below.cell (p := ⟨bt, ot + r', none⟩) (World.block_lt_of_cell? w _ hu)).trans hu
      have hI2 : IntsAt w u (t.row r') := hI
      obtain ⟨Au, cu, rfl, hu1, hu2, huc⟩ := hI2.open_
      obtain ⟨bu, ou, rfl, huc'⟩ := huc (by have := HG.out.g1; omega)
      have HUC := Lib.hid huc'
      have HR3 := Lib.hid hr3
      have HS3 := Lib.hid hS3
      have hr0 : (0 : Int) ≤ (r' : Int) := Int.natCast_nonneg _
      have hr2 : (r' : Int) < (t.length : Int) := by omega
      have hkn' : (k : Int) < (n : Int) := by omega
      have HX := Lib.hid hr'
      clear hr3 hS3 hoI e5 he he1 he2 hoc hu hI hI2 huc huc' hrl hord hstep hpre hC hx hr'
      go_wp2_with ((with_reducible refine wpList_sel 50 ?_); refine wpList_val rfl (r_make 24 _ (.tmp 49) rfl rfl rfl HR3.out) ?_)
      go_loopw [11, 14, 59] (fun so sr i wr2 => ∃ j m : Nat, i = .int .i64 j ∧ j ≤ (t.row r').length ∧ Hid (m = (visitTo (t.row r') j (ordTo t b k)).length) ∧
        (∃ A c A3 c3, so = .slice A m c ∧ sr = .slice A3 j c3 ∧ Hid (StdSt2 w1.heap.size F w wr2 so (.slice A2 k c2) sr (visitTo (t.row r') j (ordTo t b k)) (outTo (ord t b) t k) (((t.row r').take j).map (numOf (ord t b))))) ∧
        Hid (∀ c, c < j → 0 ≤ (t.row r').getD c 0)) (fun _ _ i _ => (t.row r').length - (intOf i).toNat)
      case atStart => exact ⟨0, n, rfl, by omega, HN, ⟨_, _, _, _, rfl, rfl, HS3⟩, Lib.hid fun j hj => absurd hj (by omega)⟩
      case round =>
        clear HS3 hock hu3
        obtain ⟨j, m, rfl, hj, HM, ⟨A6, c6, A7, c7, rfl, rfl, HS⟩, HNJ⟩ := hrel
        have hj0 : (0 : Int) ≤ (j : Int) := Int.natCast_nonneg _
        by_cases hjl : j < (t.row r').length
        · have hcs := HUC.out j hjl
          have hcs' := (HS.out.st.below.cell (p := ⟨bu, ou + j, none⟩) (World.block_lt_of_cell? w _ hcs)).trans hcs
          have hbd := HG.out.bd r' hr1 j (by have := HRL.out; omega)
          have hbd' : -1 ≤ (t.row r').getD j 0 ∧ (t.row r').getD j 0 < t.length := hbd
          have HSJ : Hid (visitTo (t.row r') (j + 1) (ordTo t b k) = visit (visitTo (t.row r') j (ordTo t b k)) ((t.row r').getD j 0)) := Lib.hid rfl
          have HXJ := Lib.hid (map_take_succ (f := numOf (ord t b)) hjl)
          have HNT : Hid ((t.row r').getD j 0 < 0 → std t b = none) := Lib.hid fun h => std_neg (neg_true hr1 hjl h)
          have HPJ : Hid (visitTo (t.row r') (j + 1) (ordTo t b k) <+: ord t b) := Lib.hid ((visitTo_mono _ (by omega) _).trans HPRE.out)
          have HCJ : Hid (Cos t.length (visitTo (t.row r') j (ordTo t b k))) := Lib.hid (HCOS.out.visitTo (fun c hc => (HG.out.bd r' hr1 c (by have := HRL.out; omega)).2) (by omega))
          have HNN : Hid (0 ≤ (t.row r').getD j 0 → ∀ c, c < j + 1 → 0 ≤ (t.row r').getD c 0) := Lib.hid fun h => all_succ HNJ.out h
          have hxl : (((t.row r').take j).map (numOf (ord t b))).length = j := by rw [List.length_map, List.length_take]; omega
          have hml := length_le_of_nodup HCJ.out
          clear hcs hbd
          generalize (t.row r').getD j 0 = s at *
          generalize visitTo (t.row r') j (ordTo t b k) = oj at *
          generalize ((t.row r').take j).map (numOf (ord t b)) = xj at *
          have hI : I64 s := ⟨by omega, by omega⟩
          by_cases hs : s < 0
          · have HZ := Lib.hid (HE1.out (HNT.out hs))
            have HBW := Lib.hid HS.out.st.below
            clear hI hxl hml
            go_wp2_with fail
            go_ret2
            exact ⟨⟨.slice none 0 0, ret_of2 rfl (by rw [HZ.out]), by rw [HZ.out]; exact TabB.nil⟩, HBW.out⟩
          · by_cases hin : s ∈ oj
            · have hv : visit oj s = oj := by unfold visit; simp [hin]
              have hsj := HSJ.out
              rw [hv] at hsj
              have hpj := HPJ.out
              rw [hsj] at hpj
              have hnum := idxOf_pre hpj hin
              obtain ⟨c0, hl1⟩ := HS.out.st.map.look_ok hI
              rw [show oj.contains s = true by simpa using hin] at hl1
              have hl2 := HS.out.st.map.look hI hin
              obtain ⟨A8, c8, w8, hr8, hS8⟩ := HS.out.add (numOf oj s) (by have := HRL.out; omega)
              rw [hxl] at hr8 hS8
              rw [← hnum] at hl2 hr8 hS8
              rw [← HXJ.out] at hS8
              have HL1 := Lib.hid hl1
              have HL2 := Lib.hid hl2
              have HR8 := Lib.hid hr8
              have HS8 := Lib.hid hS8
              have HM8 : Hid (m = (visitTo (t.row r') (j + 1) (ordTo t b k)).length) := Lib.hid (by rw [hsj]; exact HM.out)
              rw [← hsj] at HS8
              clear hv hsj hpj hnum hl1 hl2 hr8 hS8 hI hxl hml
              go_wp2_with (first
                | ((with_reducible refine wpList_sel 68 ?_); refine wpList_val rfl (r_look 141 (.tmp 66) (.tmp 67) rfl rfl rfl HL1.out) ?_)
                | ((with_reducible refine wpList_sel 84 ?_); refine wpList_val rfl (r_look 141 (.tmp 82) (.tmp 83) rfl rfl rfl HL2.out) ?_)
                | ((with_reducible refine wpList_sel 86 ?_); refine wpList_val rfl (r_app (.tmp 81) (.tmp 85) 24 rfl rfl rfl HR8.out) ?_))
              go_roundw
              case rel => exact ⟨j + 1, m, by go_num, by omega, HM8, ⟨_, _, _, _, rfl, rfl, HS8⟩, Lib.hid (HNN.out (by omega))⟩
              case measure => simp [intOf]; omega
            · have hv : visit oj s = oj ++ [s] := by unfold visit; simp [hin]; omega
              have hsj := HSJ.out
              rw [hv] at hsj
              have hpj := HPJ.out
              rw [hsj] at hpj
              have hnum := idxOf_pre hpj (x := s) (by simp)
              obtain ⟨c0, hl1⟩ := HS.out.st.map.look_ok hI
              rw [show oj.contains s = false by simpa using hin] at hl1
              obtain ⟨wm, A9, c9, w9, hrm, hr9, hS9⟩ := HS.out.visit hI hin (by omega)
              rw [← HM.out] at hrm hr9 hS9
              have hl2 := hS9.st.map.look hI (by simp)
              obtain ⟨A8, c8, w8, hr8, hS8⟩ := hS9.add (numOf (oj ++ [s]) s) (by have := HRL.out; omega)
              rw [hxl] at hr8 hS8
              rw [← hnum] at hl2 hr8 hS8
              rw [← HXJ.out] at hS8
              have HL1 := Lib.hid hl1
              have HL2 := Lib.hid hl2
              have HR8 := Lib.hid hr8
              have HR9 := Lib.hid hr9
              have HRM := Lib.hid hrm
              have HS8 := Lib.hid hS8
              have HM8 : Hid (m + 1 = (visitTo (t.row r') (j + 1) (ordTo t b k)).length) := Lib.hid (by rw [hsj, List.length_append, HM.out]; rfl)
              rw [← hsj] at HS8
              clear hv hsj hpj hnum hl1 hl2 hr8 hr9 hrm hS8 hS9 hI hxl hml
              go_wp2_with (first
                | ((with_reducible refine wpList_sel 68 ?_); refine wpList_val rfl (r_look 141 (.tmp 66) (.tmp 67) rfl rfl rfl HL1.out) ?_)
                | ((with_reducible refine wpList_selMu 141 73 74 76 ?_); refine wpList_skip rfl (r_mu 141 (.tmp 73) (.tmp 74) (.tmp 76) rfl rfl rfl rfl HRM.out) ?_)
                | ((with_reducible refine wpList_sel 80 ?_); refine wpList_val rfl (r_app (.tmp 77) (.tmp 79) 24 rfl rfl rfl HR9.out) ?_)
                | ((with_reducible refine wpList_sel 84 ?_); refine wpList_val rfl (r_look 141 (.tmp 82) (.tmp 83) rfl rfl rfl HL2.out) ?_)
                | ((with_reducible refine wpList_sel 86 ?_); refine wpList_val rfl (r_app (.tmp 81) (.tmp 85) 24 rfl rfl rfl HR8.out) ?_))
              go_roundw
              case rel => exact ⟨j + 1, m + 1, by go_num, by omega, HM8, ⟨_, _, _, _, rfl, rfl, HS8⟩, Lib.hid (HNN.out (by omega))⟩
              case measure => simp [intOf]; omega
        · obtain rfl : j = (t.row r').length := by omega
          rename World => wy
          have hS := HS.out
          rw [List.take_of_length_le (Nat.le_refl _)] at hS
          have hxl : ((t.row r').map (numOf (ord t b))).length = (t.row r').length := List.length_map _
          have hS' : StdSt2 w1.heap.size F w wy (.slice A6 m c6) (.slice A2 k c2) (.slice A7 ((t.row r').map (numOf (ord t b))).length c7) (visitTo (t.row r') (t.row r').length (ordTo t b k)) (outTo (ord t b) t k) ((t.row r').map (numOf (ord t b))) := by rw [hxl]; exact hS
          have hol : (ord t b).length ≤ 1000000 := by
            have := length_le_of_nodup (Cos.ordTo HG.out hb0 hb1 t.length)
            show (ordTo t b t.length).length ≤ 1000000
            omega
          obtain ⟨A8, c8, w8, hr8, hS8⟩ := hS'.done (fits_num hol) (by rw [length_outTo]; omega)
          rw [length_outTo] at hr8 hS8
          rw [hxl] at hr8
          have he8 : outTo (ord t b) t (k + 1) = outTo (ord t b) t k ++ [(t.row r').map (numOf (ord t b))] := by rw [outTo_succ, HORD.out]; rfl
          rw [← he8, ← HSTEP.out] at hS8
          have HR8 := Lib.hid hr8
          have HS8 := Lib.hid hS8
          have HM8 : Hid (m = (ordTo t b (k + 1)).length) := Lib.hid (by rw [HSTEP.out]; exact HM.out)
          have HNK : Hid (∀ j, j < k + 1 → ∀ c, c < (t.row ((ord t b).getD j 0).toNat).length → 0 ≤ (t.row ((ord t b).getD j 0).toNat).getD c 0) := Lib.hid (all_succ HNG.out (by rw [HORD.out]; exact HNJ.out))
          have hmk : k + 1 ≤ m := by
            have h1 := (visitTo_pre (t.row r') (t.row r').length (ordTo t b k)).length_le
            have h2 := HM.out
            have h3 := HN.out
            omega
          clear hS hS' hxl hol hr8 hS8 he8
          go_wp2_with ((with_reducible refine wpList_sel 91 ?_); refine wpList_val rfl (r_app (.tmp 88) (.tmp 90) 23 rfl rfl rfl HR8.out) ?_)
          go_roundw
          case rel => exact ⟨k + 1, m, by go_num, hmk, by omega, HM8, ⟨_, _, _, _, _, rfl, rfl, HS8⟩, HNK⟩
          case measure => simp [intOf]; omega
    · obtain rfl : k = n := by omega
      have hend : ord t b = ordTo t b k := ord_end (by have := HN.out; omega) hkt
      have HEND := Lib.hid hend
      have HT2 := Lib.hid HST.out.tabB
      have HBW := Lib.hid HST.out.below
      clear hend
      by_cases hkl : k = t.length
      · have d5 : ((k : Int) != (t.length : Int)) = false := by simp [hkl]
        have hs := std_full HG.out hb0 hb1 (by rw [HEND.out, ← HN.out]; exact hkl) (by rw [← hkl]; exact HNG.out)
        have HZ := Lib.hid (HE2.out _ hs)
        have HKL := Lib.hid hkl
        clear hkl hs
        go_wp2_with fail
        go_ret2
        exact ⟨⟨_, ret_of2 rfl (by rw [HZ.out]), by rw [HZ.out, ← HKL.out]; exact HT2.out⟩, HBW.out⟩
      · have d5 : ((k : Int) != (t.length : Int)) = true := by simp; omega
        have HZ := Lib.hid (HE1.out (std_short (by rw [HEND.out, ← HN.out]; exact hkl)))
        clear hkl
        go_wp2_with fail
        go_ret2
        exact ⟨⟨.slice none 0 0, ret_of2 rfl (by rw [HZ.out]), by rw [HZ.out]; exact TabB.nil⟩, HBW.out⟩
theorem std48_good (w : World) (v : Value) (g : Nat) (t : Tb) (b : Int) (ht : Tab w v t) (hg : TGood g t) (hb0 : 0 ≤ b) (hb1 : b < t.length) : Calls Try.prog 56 #[.int .i64 g, v, .int .i64 b] w (StdPost g t b w) :=
  (std48_goodB w v g t b ht hg hb0 hb1).mono fun _ _ ⟨⟨u, h1, h2⟩, h3⟩ => ⟨⟨u, h1, h2.at_⟩, h3⟩
end Go.Proofs
namespace Go.Proofs
open Go.RowKit Go.Shelf Go.Proofs.Ct
def numL (o : List Int) (n : Nat) : List Int := (List.range n).map fun (i : Nat) => if o.contains (i : Int) then numOf o (i : Int) else -1
def fillL (i n : Nat) : List Int := (List.range n).map fun (j : Nat) => if j < i then -1 else 0
theorem length_numL (o : List Int) (n : Nat) : (numL o n).length = n := by simp [numL]
theorem length_fillL (i n : Nat) : (fillL i n).length = n := by simp [fillL]
theorem map_range_set {f g : Nat → Int} {n k : Nat} {v : Int} (hv : g k = v) (ho : ∀ j, j < n → j ≠ k → g j = f j) : ((List.range n).map f).set k v = (List.range n).map g := by
  refine getD_ext (d := 0) (by simp) fun j hj => ?_
  have hj' : j < n := by simpa using hj
  rw [getD_set]
  by_cases e : k = j
  · subst e
    rw [if_pos ⟨rfl, by simpa using hj'⟩]
    simp [List.getD_eq_getElem?_getD, hj', hv]
  · rw [if_neg (fun h => e h.1)]
    simp [List.getD_eq_getElem?_getD, hj', ho j hj' (Ne.symm e)]
theorem fillL_full (n : Nat) : fillL n n = numL [] n := by
  unfold fillL numL
  apply List.map_congr_left
  intro j hj
  simp at hj
  simp [hj]
theorem numL_set {o : List Int} {n s : Nat} (hs : (s : Int) ∉ o) : (numL o n).set s o.length = numL (o ++ [(s : Int)]) n := by
  refine map_range_set ?_ fun j _ hne => ?_
  · rw [if_pos (by simp), numOf_new hs (List.prefix_refl _)]
  · have hne' : (j : Int) ≠ (s : Int) := by omega
    by_cases hm : (j : Int) ∈ o
    · rw [if_pos (by simp [hm]), if_pos (by simpa using hm), idxOf_pre (List.prefix_append _ _) hm]
    · rw [if_neg (by simp [hm, hne']), if_neg (by simpa using hm)]
/-- the numbers in a block, the order in a slice of its own -/
structure NumSt (nb n : Nat) (w0 wr : World) (vo : Value) (o : List Int) : Prop where
  below : Below w0.heap.size w0 wr
  nb0 : w0.heap.size ≤ nb
  num : XsAt wr nb (numL o n)
  ord : OwnI w0.heap.size wr vo o
  ap : vo.ownBlock ≠ some nb
theorem NumSt.visit {nb n : Nat} {w0 wr : World} {vo : Value} {o : List Int} (h : NumSt nb n w0 wr vo o) {s : Nat} (hs : s < n) (hn : (s : Int) ∉ o) (ho : o.length ≤ 100000) :
    ∃ A' c' w', (Builtin.append_ #[24, 24] 24 #[vo, .slice (some ⟨wr.heap.size, 0, none⟩) 1 1]).run Try.prog ((wr.setCell ⟨nb, s, none⟩ (.int .i64 (o.length : Int))).alloc (.cells #[.int .i64 (s : Int)] 3)) = .ok (.slice A' (o.length + 1) c') w' ∧
      NumSt nb n w0 w' (.slice A' (o.length + 1) c') (o ++ [(s : Int)]) := by
  have hg1 := grown_setCell wr nb s (.int .i64 (o.length : Int))
  have hx := h.num.set (k := s) (by rw [length_numL]; exact hs) (o.length : Int)
  rw [numL_set hn] at hx
  have hor : OwnI w0.heap.size (wr.setCell ⟨nb, s, none⟩ (.int .i64 (o.length : Int))) vo o := owns_keep h.ord fun r hr =>
    hg1.block r (owns_lt h.ord hr) (fun e => h.ap (by rw [hr]; exact e))
  have hB1 : Below w0.heap.size w0 (wr.setCell ⟨nb, s, none⟩ (.int .i64 (o.length : Int))) := h.below.grown hg1 h.below.size (fun k hk => by cases hk; exact h.nb0)
  have hsz : (wr.setCell ⟨nb, s, none⟩ (.int .i64 (o.length : Int))).heap.size = wr.heap.size := by simp [World.setCell]
  generalize wr.setCell ⟨nb, s, none⟩ (.int .i64 (o.length : Int)) = W at *
  obtain ⟨A', c', w', hr, ho', hg, hw⟩ := push_int 24 24 Try.underlying24 W w0.heap.size vo o hor (s : Int) (by omega) hB1.size
  rw [hsz] at hr
  refine ⟨A', c', w', hr, hB1.grown hg hB1.size (fun k hk => (owns_block hor k hk).1), h.nb0, hx.grown hg h.ap, ho', fun e => ?_⟩
  rcases hw with hw | ⟨r', hr', hge⟩
  · exact h.ap (hw.symm.trans e)
  · rw [hr'] at e
    have : r' = nb := Option.some.inj e
    have := hx.lt
    omega
theorem made3 (n : Nat) : madeCells (Value.int .i64 0).cells n = Array.replicate n (.int .i64 0) := by
  apply Array.ext_getElem?
  intro k
  simp only [madeCells, Value.cells, Array.getElem?_map, Array.getElem?_range, Array.getElem?_replicate]
  by_cases h : k < n
  · simp [h, Nat.mod_one]
  · simp [h]
theorem NumSt.first {n nb : Nat} {w0 w : World} {b : Nat} (hB : Below w0.heap.size w0 w) (hnb : w0.heap.size ≤ nb) (hx : XsAt w nb (fillL n n)) (hb : b < n) :
    NumSt nb n w0 ((w.alloc (.cells #[.int .i64 (b : Int)] 3)).setCell ⟨nb, b, none⟩ (.int .i64 0)) (.slice (some ⟨w.heap.size, 0, none⟩) 1 1) [(b : Int)] := by
  have h1 := hB.size
  have h2 := hx.lt
  have hal : Below w.heap.size w (w.alloc (.cells #[.int .i64 (b : Int)] 3)) := (Below.refl _ _).alloc (Nat.le_refl _) _
  have hg := grown_setCell (w.alloc (.cells #[.int .i64 (b : Int)] 3)) nb b (.int .i64 0)
  have hx2 := (hx.below hal).set (k := b) (by rw [length_fillL]; exact hb) 0
  rw [fillL_full] at hx2
  have hx3 := numL_set (o := []) (n := n) (s := b) (by simp)
  simp only [List.length_nil, List.nil_append] at hx3
  rw [show ((0 : Nat) : Int) = 0 from rfl] at hx3
  rw [hx3] at hx2
  refine ⟨(hB.trans (hal.mono h1)).grown hg (by have := hal.size; omega) (fun k hk => by cases hk; exact hnb), hnb, hx2, ⟨rfl, .inr ⟨w.heap.size, 1, #[.int .i64 (b : Int)], rfl, h1, ?_, Nat.le_refl _, by simp [maxLen], rfl, rfl⟩⟩, fun e => ?_⟩
  · refine (hg.block w.heap.size (by simp) (fun e => ?_)).trans (heap_alloc_new w _)
    have : w.heap.size = nb := Option.some.inj e
    omega
  · have : w.heap.size = nb := Option.some.inj e
    omega
theorem TabB.mono {B B' : Nat} {w : World} {u : Value} {xs : List (List Int)} (h : TabB B w u xs) (hB : B' ≤ B) : TabB B' w u xs := fun w' hw => h w' fun k h1 h2 => hw k (Nat.le_trans hB h1) h2
theorem OutSt.tabB {e : TypeId} {F : Nat → Prop} {w0 wr : World} {vout : Value} {rows : List (List Int)} (h : OutSt e F w0 wr vout rows) : TabB w0.heap.size wr vout rows := fun w' hw => by
  have hub := h.out.block
  exact (h.out.keep (G := F) (fun r hr => hw r (hub r hr).1 (by obtain ⟨-, C, hC⟩ := hub r hr; exact (Array.getElem?_eq_some_iff.1 hC).1)) (fun k hk => hw k (h.fs k hk).1 (h.fs k hk).2.1) (fun _ h => h)).tab
end Go.Proofs
namespace Go.Proofs
open Go.RowKit Go.Shelf Go.Proofs.Ct
theorem run_append_nil2 {P : Program} (w : World) (base : Nat) (t ty e : TypeId) (i : TypeInfo) (ht : P.underlying t = some (.slice e)) (hi : P.info? e = some i) (c : Nat)
    (v : Value) (n : Nat) (xs : List Value) (hown : w.ownsRow base e 1 v n xs) : (Builtin.append_ #[t, t] ty #[v, .slice none 0 c]).run P w = .ok v w := by
  rcases hown.2 with ⟨rfl, rfl⟩ | ⟨g, cap, cur, rfl, _, _, hnc, _⟩
  · simp [Builtin.append_, run_underlying ht, sizeOf, typeInfo, hi, Builtin.lenOf, Builtin.firstCells]
  · simp [Builtin.append_, run_underlying ht, sizeOf, typeInfo, hi, Builtin.lenOf, Builtin.firstCells, hnc, storeCells]
/-- append(v, u...): u readable, v of the call's own -/
theorem run_append_ints (ty t : TypeId) (ht : Try.prog.underlying t = some (.slice 3)) (w : World) (base : Nat) (v u : Value) (x y : List Int) (h : OwnI base w v x) (hu : IntsAt w u y) (hx : x.length ≤ 1000000) (hy : y.length ≤ 1000000) (hb : base ≤ w.heap.size) :
    ∃ A' c' w', (Builtin.append_ #[t, t] ty #[v, u]).run Try.prog w = .ok (.slice A' (x ++ y).length c') w' ∧ OwnI base w' (.slice A' (x ++ y).length c') (x ++ y) ∧ w.grownBy w' v.ownBlock ∧
      ((Value.slice A' (x ++ y).length c').ownBlock = v.ownBlock ∨ ∃ r, (Value.slice A' (x ++ y).length c').ownBlock = some r ∧ w.heap.size ≤ r) := by
  obtain ⟨i3, hi3, hz3, hs3, hb3⟩ := info3p
  have hl : (x ++ y).length = x.length + y.length := List.length_append
  obtain ⟨A, c, rfl, hc1, hc2, hc⟩ := hu.open_
  cases A with
  | none =>
    have h0 : y = [] := by
      rcases Nat.eq_zero_or_pos y.length with h0 | h0
      · exact List.length_eq_zero_iff.1 h0
      · obtain ⟨b, off, hx, -⟩ := hc h0
        cases hx
    subst h0
    obtain ⟨A', c', e⟩ := owns_form h
    subst e
    rw [List.append_nil]
    exact ⟨A', c', w, run_append_nil2 w base t ty 3 i3 ht hi3 c _ _ _ h, h, World.grownBy.refl w _, .inl rfl⟩
  | some a =>
    have hcells : ∀ j u, (ints y)[j]? = some u → w.cell? (a.add j) = some u := by
      intro j u hju
      have hj : j < y.length := by
        have := (List.getElem?_eq_some_iff.1 hju).1
        simpa [ints] using this
      obtain ⟨b, off, e, hcc⟩ := hc (by omega)
      cases e
      rw [Addr.add_lit, hcc j hj, ← hju]
      simp [ints, hj, List.getD_eq_getElem?_getD]
    obtain ⟨v', w', hr, hown, hg, -, hw⟩ := run_append_own_at (P := Try.prog) w base t ty 3 i3 (.int .i64 0) 1 8 ht hi3 hz3 hs3 hb3 rfl (by omega) v x.length (ints x) h a y.length c (ints y) (by simp [ints]) hcells (fun u hu => by
      obtain ⟨z, -, rfl⟩ := List.mem_map.1 hu; rfl) (by unfold maxLen; omega) (by omega) hb
    obtain ⟨A', c', rfl⟩ := owns_form hown
    refine ⟨A', c', w', by rw [hr, hl], by unfold OwnI; rw [hl, ints_app]; exact hown, hg, by rw [hl]; exact hw.imp id fun hh => ⟨_, hh, Nat.le_refl _⟩⟩
end Go.Proofs
namespace Go.Proofs
open Go.RowKit Go.Shelf Go.Proofs.Ct
theorem RedPost.base {x : List Int} {w w1 : World} {e : Ending} {w' : World} (hb : Below w.heap.size w w1) (h : RedPost x w1 e w') : RedPost x w e w' := by
  obtain ⟨A, c, h1, h2, h3⟩ := h
  exact ⟨A, c, h1, owns_base h2 hb.size, hb.trans (h3.mono hb.size)⟩
def sumTo (xs : List (List Int)) (k : Nat) : Nat := foldTo (fun k l => l + (xs.getD k []).length) k 0
end Go.Proofs
namespace Go.Proofs.Ct
/-- in the list P of parents, the root of x is r -/
inductive Root (P : List Int) : Nat → Nat → Prop where
  | here {x : Nat} (h : P.getD x 0 = (x : Int)) : Root P x x
  | up {x y r : Nat} (h : P.getD x 0 = (y : Int)) (hl : y < x) (hr : Root P y r) : Root P x r
theorem Root.le {P : List Int} {x r : Nat} (h : Root P x r) : r ≤ x := by
  induction h with
  | here => exact Nat.le_refl _
  | up _ hl _ ih => omega
theorem Root.self {P : List Int} {x r : Nat} (h : Root P x r) : P.getD r 0 = (r : Int) := by
  induction h with
  | here h => exact h
  | up _ _ _ ih => exact ih
theorem Root.parent {P : List Int} {x r : Nat} (h : Root P x r) : ∃ y : Nat, P.getD x 0 = (y : Int) ∧ y ≤ x ∧ Root P y r ∧ (y = x ↔ r = x) := by
  cases h with
  | here h => exact ⟨x, h, Nat.le_refl _, .here h, by simp⟩
  | @up _ y _ h hl hr => exact ⟨y, h, Nat.le_of_lt hl, hr, ⟨fun e => by omega, fun e => by have := hr.le; omega⟩⟩
theorem Root.unique {P : List Int} {x r r' : Nat} (h : Root P x r) (h' : Root P x r') : r = r' := by
  induction h with
  | here h =>
    cases h' with
    | here => rfl
    | up h2 hl _ => omega
  | @up x y _ h hl hr ih =>
    cases h' with
    | here h2 => omega
    | @up _ y' _ h2 hl2 hr2 =>
      obtain rfl : y = y' := by omega
      exact ih hr2
theorem getD_set_of {l : List Int} {k j : Nat} {v : Int} (hk : k < l.length) : (l.set k v).getD j 0 = if k = j then v else l.getD j 0 := by
  rw [List.getD_eq_getElem?_getD, List.getElem?_set, List.getD_eq_getElem?_getD]
  by_cases h : k = j
  · subst h; simp [hk]
  · simp [h]
/-- a way is made shorter -/
theorem Root.short {P : List Int} {c q : Nat} (hc : Root P c q) (hcl : c < P.length) {x r : Nat} (h : Root P x r) : Root (P.set c (q : Int)) x r := by
  have hq := hc.self
  have hql := hc.le
  have hget : ∀ j, (P.set c (q : Int)).getD j 0 = if c = j then (q : Int) else P.getD j 0 := fun j => getD_set_of hcl
  have hrq : Root (P.set c (q : Int)) q q := .here (by
    rw [hget]
    split
    · rfl
    · exact hq)
  induction h with
  | @here x h =>
    refine .here ?_
    rw [hget]
    split
    · rename_i e
      subst e
      have := hc.unique (.here h)
      rw [this]
    · exact h
  | @up x y r h hl hr ih =>
    by_cases e : c = x
    · subst e
      have hr' := hc.unique (.up h hl hr)
      subst hr'
      have : q ≤ y := hr.le
      exact .up (y := q) (by rw [hget, if_pos rfl]) (by omega) hrq
    · exact .up (by rw [hget, if_neg e]; exact h) hl ih
/-- two roots are joined -/
theorem Root.link {P : List Int} {a b : Nat} (ha : P.getD a 0 = (a : Int)) (hb : P.getD b 0 = (b : Int)) (hba : b < a) (hal : a < P.length) {x r : Nat} (h : Root P x r) : Root (P.set a (b : Int)) x (if r = a then b else r) := by
  have hget : ∀ j, (P.set a (b : Int)).getD j 0 = if a = j then (b : Int) else P.getD j 0 := fun j => getD_set_of hal
  have hbb : Root (P.set a (b : Int)) b b := .here (by rw [hget, if_neg (by omega)]; exact hb)
  induction h with
  | @here x h =>
    by_cases e : x = a
    · subst e
      rw [if_pos rfl]
      exact .up (y := b) (by rw [hget, if_pos rfl]) hba hbb
    · rw [if_neg e]
      exact .here (by rw [hget, if_neg (fun h => e h.symm)]; exact h)
  | @up x y r h hl hr ih =>
    have e : a ≠ x := fun e => by subst e; omega
    exact .up (by rw [hget, if_neg e]; exact h) hl ih
theorem Root.more {P : List Int} {x r : Nat} (hx : x < P.length) (h : Root P x r) (z : Int) : Root (P ++ [z]) x r := by
  have hget : ∀ j, j < P.length → (P ++ [z]).getD j 0 = P.getD j 0 := fun j hj => by simp [List.getD_eq_getElem?_getD, List.getElem?_append_left hj]
  induction h with
  | here h => exact .here (by rw [hget _ hx]; exact h)
  | up h hl hr ih => exact .up (by rw [hget _ hx]; exact h) hl (ih (by omega))
/-- the parents give the representatives -/
structure Roots (P : List Int) (s : St) : Prop where
  len : P.length = s.t.length
  root : ∀ x, x < s.t.length → Root P x (s.rp x)
theorem Roots.short {P : List Int} {s : St} (h : Roots P s) {c : Nat} (hc : c < s.t.length) : Roots (P.set c (s.rp c : Int)) s :=
  ⟨by simpa using h.len, fun x hx => (h.root c hc).short (by rw [h.len]; exact hc) (h.root x hx)⟩
theorem Roots.merge {g : Nat} {P : List Int} {s : St} (hI : Inv g s) (h : Roots P s) {a b : Nat} (ha : a < s.t.length) (hb : b < s.t.length) (hne : s.rp a ≠ s.rp b) : Roots (P.set (max (s.rp a) (s.rp b)) ((min (s.rp a) (s.rp b) : Nat) : Int)) (mergeS s a b) := by
  have ht := t_merge s a b
  have hra := (h.root a ha).self
  have hrb := (h.root b hb).self
  have hla := hI.rlt ha
  have hlb := hI.rlt hb
  refine ⟨by rw [ht]; simpa using h.len, fun x hx => ?_⟩
  rw [ht] at hx
  rw [rp_merge hI ha hb hx]
  refine Root.link ?_ ?_ (by omega) (by rw [h.len]; omega) (h.root x hx)
  · rcases Nat.le_total (s.rp a) (s.rp b) with h' | h'
    · rw [Nat.max_eq_right h']; exact hrb
    · rw [Nat.max_eq_left h']; exact hra
  · rcases Nat.le_total (s.rp a) (s.rp b) with h' | h'
    · rw [Nat.min_eq_left h']; exact hra
    · rw [Nat.min_eq_right h']; exact hrb
theorem Roots.add {g : Nat} {P : List Int} {s : St} (hI : Inv g s) (h : Roots P s) (m : Nat) : Roots (P ++ [(s.t.length : Int)]) (addS m s) := by
  refine ⟨by rw [length_add]; simp [h.len], fun x hx => ?_⟩
  rw [length_add] at hx
  rcases Nat.lt_or_ge x s.t.length with h1 | h1
  · rw [rp_add_old hI m h1]
    exact (h.root x h1).more (by rw [h.len]; exact h1) _
  · obtain rfl : x = s.t.length := by omega
    rw [rp_add_new hI m]
    exact .here (by rw [← h.len]; simp [List.getD_eq_getElem?_getD])
/-- the rows and the queue do not matter -/
theorem Roots.of_rep {P : List Int} {s s' : St} (h : Roots P s) (hn : s'.t.length = s.t.length) (hr : s'.rep = s.rep) : Roots P s' :=
  ⟨by rw [hn]; exact h.len, fun x hx => by rw [hn] at hx; have := h.root x hx; unfold St.rp at this ⊢; rw [hr]; exact this⟩
end Go.Proofs.Ct
namespace Go.Proofs
open Go.RowKit Go.Shelf Go.Proofs.Ct Go.Maps
def nats (l : List Nat) : List Int := l.map Int.ofNat
theorem length_nats (l : List Nat) : (nats l).length = l.length := by simp [nats]
theorem nats_app (a b : List Nat) : nats (a ++ b) = nats a ++ nats b := by simp [nats]
theorem nats_getD (l : List Nat) (k : Nat) : (nats l).getD k 0 = (l.getD k 0 : Int) := by
  unfold nats
  by_cases h : k < l.length
  · simp [List.getD_eq_getElem?_getD, h]
  · simp [List.getD_eq_getElem?_getD, List.getElem?_eq_none (by omega : l.length ≤ k)]
/-- an element of an owned list of numbers is written -/
theorem ownI_set {base : Nat} {w : World} {v : Value} {xs : List Int} (h : OwnI base w v xs) {g k : Nat} (hg : v.ownBlock = some g) (_hk : k < xs.length) (z : Int) : OwnI base (w.setCell ⟨g, k, none⟩ (.int .i64 z)) v (xs.set k z) := by
  obtain ⟨hl, h⟩ := h
  rcases h with ⟨rfl, -⟩ | ⟨g', cap, cur, rfl, hb, hc, hn, hm, hs, ht⟩
  · cases hg
  · obtain rfl : g' = g := Option.some.inj hg
    refine ⟨by simp [ints], .inr ⟨g', cap, cur.setIfInBounds k (.int .i64 z), by simp, hb, by simp [World.setCell, Array.getElem?_modify, hc], by simpa using hn, hm, by simpa using hs, ?_⟩⟩
    rw [Array.toList_setIfInBounds, List.take_set, List.length_set, ht]
    simp [ints, List.map_set]
theorem ownI_cell {base : Nat} {w : World} {v : Value} {xs : List Int} (h : OwnI base w v xs) (hn : 0 < xs.length) : ∃ g c, v = .slice (some ⟨g, 0, none⟩) xs.length c ∧ base ≤ g ∧ g < w.heap.size ∧ (∀ k, k < xs.length → w.cell? ⟨g, k, none⟩ = some (.int .i64 (xs.getD k 0))) ∧ ∀ k, w.frozen? ⟨g, k, none⟩ = false := by
  obtain ⟨hl, h⟩ := h
  rcases h with ⟨rfl, h0⟩ | ⟨g, cap, cur, rfl, hb, hc, h1, hm, hs, ht⟩
  · omega
  · refine ⟨g, cap, rfl, hb, (Array.getElem?_eq_some_iff.1 hc).1, fun k hk => ?_, fun k => by simp [World.frozen?, hc]⟩
    rw [cell_of_row _ _ _ _ _ _ hc]
    have h2 : (cur.toList.take (xs.length * 1))[k]? = (ints xs)[k]? := by rw [ht]
    rw [List.getElem?_take, if_pos (by omega)] at h2
    simpa [ints, hk, List.getD_eq_getElem?_getD] using h2
theorem ownI_at {base : Nat} {w : World} {g n c : Nat} {xs : List Int} (h : OwnI base w (.slice (some ⟨g, 0, none⟩) n c) xs) {k : Nat} (hk : k < xs.length) : w.cell? ⟨g, k, none⟩ = some (.int .i64 (xs.getD k 0)) ∧ w.frozen? ⟨g, k, none⟩ = false := by
  obtain ⟨g', c', e, -, -, h1, h2⟩ := ownI_cell h (by omega)
  have e1 : g = g' := by have := congrArg Value.ownBlock e; simpa [Value.ownBlock] using this
  subst e1
  exact ⟨h1 k hk, h2 k⟩
/-- rows, parents and queue in memory, all of the call's own from base on -/
structure CoreM (base : Nat) (w : World) (s : St) (P : List Int) (vr vp vq : Value) (bl cs : Nat → Nat) : Prop where
  out : w.ownsRow base 24 1 vr s.t.length ((List.range s.t.length).map fun i => .slice (some ⟨bl i, 0, none⟩) (s.t.row i).length (cs i))
  row : ∀ i, i < s.t.length → base ≤ bl i ∧ XsAt w (bl i) (s.t.row i) ∧ (s.t.row i).length ≤ cs i ∧ cs i ≤ 9223372036854775807
  inj : ∀ i j, i < s.t.length → j < s.t.length → bl i = bl j → i = j
  par : OwnI base w vp P
  que : OwnI base w vq (nats s.q)
  sepP : ∀ i, i < s.t.length → vp.ownBlock ≠ some (bl i)
  sepQ : ∀ i, i < s.t.length → vq.ownBlock ≠ some (bl i)
  pq : ∀ r, vp.ownBlock = some r → vq.ownBlock ≠ some r
  root : Roots P s
section
variable {base : Nat} {w w' : World} {s : St} {P : List Int} {vr vp vq : Value} {bl cs : Nat → Nat}
/-- nothing of it lies in the blocks that turn -/
theorem CoreM.keep (h : CoreM base w s P vr vp vq bl cs) (hk : ∀ k C e, base ≤ k → w.heap[k]? = some (.cells C e (0, 0)) → (e = 3 ∨ e = 24) → w'.heap[k]? = w.heap[k]?) : CoreM base w' s P vr vp vq bl cs := by
  refine ⟨owns_keep h.out fun r hr => ?_, fun i hi => ?_, h.inj, owns_keep h.par fun r hr => ?_, owns_keep h.que fun r hr => ?_, h.sepP, h.sepQ, h.pq, h.root⟩
  · obtain ⟨a, C, hC⟩ := owns_block h.out r hr
    exact hk r C 24 a hC (.inr rfl)
  · obtain ⟨a, b, c⟩ := h.row i hi
    obtain ⟨C, hC, -⟩ := id b
    exact ⟨a, b.keep (hk _ C 3 a hC (.inl rfl)), c⟩
  · obtain ⟨a, C, hC⟩ := owns_block h.par r hr
    exact hk r C 3 a hC (.inl rfl)
  · obtain ⟨a, C, hC⟩ := owns_block h.que r hr
    exact hk r C 3 a hC (.inl rfl)
theorem CoreM.below (h : CoreM base w s P vr vp vq bl cs) (hb : Below w.heap.size w w') : CoreM base w' s P vr vp vq bl cs :=
  h.keep fun k _C _e _ hC _ => hb.block k (Array.getElem?_eq_some_iff.1 hC).1
/-- another block is written -/
theorem CoreM.other (h : CoreM base w s P vr vp vq bl cs) {b : Nat} {C0 : Array Value} {T : TypeId} (hb : w.heap[b]? = some (.cells C0 T (0, 0))) (h3 : T ≠ 3) (h24 : T ≠ 24) (k : Nat) (v : Value) : CoreM base (w.setCell ⟨b, k, none⟩ v) s P vr vp vq bl cs :=
  h.keep fun j C e _ hC he => Below.heap_setCell w ⟨b, k, none⟩ v j fun e' => by
    have e'' : j = b := e'
    rw [e'', hb] at hC
    cases hC
    rcases he with he | he <;> simp_all
theorem CoreM.len (h : CoreM base w s P vr vp vq bl cs) : P.length = s.t.length := h.root.len
/-- reading an element of a row -/
theorem CoreM.at_ (h : CoreM base w s P vr vp vq bl cs) {r c : Nat} (hr : r < s.t.length) (hc : c < (s.t.row r).length) : ∃ g cap, vr = .slice (some ⟨g, 0, none⟩) s.t.length cap ∧ w.cell? ⟨g, r, none⟩ = some (.slice (some ⟨bl r, 0, none⟩) (s.t.row r).length (cs r)) ∧ w.cell? ⟨bl r, c, none⟩ = some (.int .i64 (s.t.at r c)) ∧ w.frozen? ⟨bl r, c, none⟩ = false := by
  obtain ⟨-, hX, -⟩ := h.row r hr
  obtain ⟨hl, ho⟩ := h.out
  rcases ho with ⟨-, h0⟩ | ⟨g, cap, cur, rfl, hb, hC, h1, hm, hs, ht⟩
  · omega
  · refine ⟨g, cap, rfl, ?_, hX.cell hc, hX.frozen c⟩
    rw [cell_of_row _ _ _ _ _ _ hC]
    have h2 : (cur.toList.take (s.t.length * 1))[r]? = ((List.range s.t.length).map fun i => Value.slice (some ⟨bl i, 0, none⟩) (s.t.row i).length (cs i))[r]? := by rw [ht]
    rw [List.getElem?_take, if_pos (by omega)] at h2
    simpa [hr] using h2
/-- writing an element of a row -/
theorem CoreM.set (h : CoreM base w s P vr vp vq bl cs) {r c : Nat} (hr : r < s.t.length) (hc : c < (s.t.row r).length) (z : Int) : CoreM base (w.setCell ⟨bl r, c, none⟩ (.int .i64 z)) { s with t := set2 s.t r c z } P vr vp vq bl cs := by
  have hne : ∀ k, k ≠ bl r → (w.setCell ⟨bl r, c, none⟩ (.int .i64 z)).heap[k]? = w.heap[k]? := fun k hk => Below.heap_setCell w ⟨bl r, c, none⟩ _ k hk
  obtain ⟨-, hXr, -⟩ := h.row r hr
  obtain ⟨Cr, hCr, -⟩ := id hXr
  refine ⟨?_, fun i hi => ?_, fun i j hi hj => h.inj i j (by simpa [length_set2] using hi) (by simpa [length_set2] using hj), owns_keep h.par fun k hk => hne k (fun e => h.sepP r hr (by rw [hk, e])), owns_keep h.que fun k hk => hne k (fun e => h.sepQ r hr (by rw [hk, e])), fun i hi => h.sepP i (by simpa [length_set2] using hi), fun i hi => h.sepQ i (by simpa [length_set2] using hi), h.pq, h.root.of_rep (length_set2 _ _ _ _) rfl⟩
  · simp only [length_set2, rowlen_set2]
    refine owns_keep h.out fun k hk => hne k fun e => ?_
    obtain ⟨-, C, hC⟩ := owns_block h.out k hk
    rw [e, hCr] at hC
    cases hC
  · simp only [length_set2] at hi
    obtain ⟨a, b, d⟩ := h.row i hi
    simp only [rowlen_set2]
    refine ⟨a, ?_, d⟩
    rw [row_set2]
    by_cases e : r = i
    · subst e
      rw [if_pos ⟨rfl, hr⟩]
      exact hXr.set hc z
    · rw [if_neg (fun h' => e h'.1)]
      exact b.keep (hne _ fun e' => e (h.inj r i hr hi e'.symm))
/-- writing a parent -/
theorem CoreM.setP (h : CoreM base w s P vr vp vq bl cs) {g x : Nat} (hg : vp.ownBlock = some g) (hx : x < P.length) (z : Int) {s' : St} (ht : s'.t = s.t) (hq : s'.q = s.q) (hroot : Roots (P.set x z) s') : CoreM base (w.setCell ⟨g, x, none⟩ (.int .i64 z)) s' (P.set x z) vr vp vq bl cs := by
  have hne : ∀ k, k ≠ g → (w.setCell ⟨g, x, none⟩ (.int .i64 z)).heap[k]? = w.heap[k]? := fun k hk => Below.heap_setCell w ⟨g, x, none⟩ _ k hk
  obtain ⟨-, Cg, hCg⟩ := owns_block h.par g hg
  refine ⟨?_, fun i hi => ?_, by rw [ht]; exact h.inj, ownI_set h.par hg hx z, by rw [hq]; exact owns_keep h.que fun k hk => hne k (fun e => h.pq g hg (by rw [hk, e])), by rw [ht]; exact h.sepP, by rw [ht]; exact h.sepQ, h.pq, hroot⟩
  · rw [ht]
    refine owns_keep h.out fun k hk => hne k fun e => ?_
    obtain ⟨-, C, hC⟩ := owns_block h.out k hk
    rw [e, hCg] at hC
    cases hC
  · rw [ht] at hi ⊢
    obtain ⟨a, b, d⟩ := h.row i hi
    exact ⟨a, b.keep (hne _ fun e => h.sepP i hi (by rw [hg, e])), d⟩
/-- a coset joins the queue -/
theorem CoreM.pushQ (h : CoreM base w s P vr vp vq bl cs) (hbw : base ≤ w.heap.size) (x : Nat) (hl : s.q.length ≤ 1000000) : ∃ A' c' w', (Builtin.append_ #[24, 24] 24 #[vq, .slice (some ⟨w.heap.size, 0, none⟩) 1 1]).run Try.prog (w.alloc (.cells #[.int .i64 (x : Int)] 3)) = .ok (.slice A' (s.q.length + 1) c') w' ∧
    CoreM base w' { s with q := s.q ++ [x] } P vr vp (.slice A' (s.q.length + 1) c') bl cs ∧ w.grownBy w' vq.ownBlock := by
  have hq := h.que
  obtain ⟨A', c', w', hr, ho, hg, hw⟩ := push_int 24 24 Try.underlying24 w base vq (nats s.q) hq (x : Int) (by rw [length_nats]; omega) hbw
  rw [length_nats] at hr ho hw
  have hne : ∀ k C e, w.heap[k]? = some (.cells C e (0, 0)) → vq.ownBlock ≠ some k → w'.heap[k]? = w.heap[k]? := fun k C e hC hn => hg.block k (Array.getElem?_eq_some_iff.1 hC).1 (Ne.symm hn)
  have hnewb : ∀ r, (Value.slice A' (s.q.length + 1) c').ownBlock = some r → vq.ownBlock = some r ∨ w.heap.size ≤ r := fun r hr => by
    rcases hw with hw | ⟨r', hr', hge⟩
    · exact .inl (by rw [← hw]; exact hr)
    · rw [hr] at hr'
      cases hr'
      exact .inr hge
  refine ⟨A', c', w', hr, ⟨owns_keep h.out fun k hk => ?_, fun i hi => ?_, h.inj, owns_keep h.par fun k hk => ?_, ?_, h.sepP, fun i hi e => ?_, fun r hr e => ?_, h.root.of_rep rfl rfl⟩, hg⟩
  · obtain ⟨-, C, hC⟩ := owns_block h.out k hk
    refine hne k C 24 hC fun e => ?_
    obtain ⟨-, C', hC'⟩ := owns_block hq k e
    rw [hC] at hC'
    cases hC'
  · obtain ⟨a, b, d⟩ := h.row i hi
    obtain ⟨C, hC, -⟩ := id b
    exact ⟨a, b.keep (hne _ C 3 hC (h.sepQ i hi)), d⟩
  · obtain ⟨-, C, hC⟩ := owns_block h.par k hk
    exact hne k C 3 hC (h.pq k hk)
  · show OwnI base w' _ (nats (s.q ++ [x]))
    rw [nats_app]
    exact ho
  · obtain ⟨-, b, -⟩ := h.row i hi
    rcases hnewb _ e with e | e
    · exact h.sepQ i hi e
    · exact absurd b.lt (by omega)
  · rcases hnewb _ e with e | e
    · exact h.pq r hr e
    · exact absurd (owns_lt h.par hr) (by omega)
end
end Go.Proofs
namespace Go.Proofs
open Go.RowKit Go.Shelf Go.Proofs.Ct Go.Maps Go.WideMaps
theorem laidOutT : laidOutB Try.prog = true := by kernel_rfl
theorem row102 : (109 : TypeId) < Try.prog.types.size := of_decide_eq_true (by kernel_rfl)
theorem law102 : Keyed Try.prog 109 := Keyed.of_law (deep_law_laid laidOutT (m := 2) (by omega) row102 (by kernel_rfl) (by
  have h := Try.underlying109
  generalize Try.prog.underlying 109 = u at *
  subst h
  rfl))
theorem cells102 : Try.prog.cellsOf 109 = 2 := by kernel_rfl
theorem formed102 {c0 c1 : Value} : (Value.agg #[c0, c1]).formed Try.prog 109 = true := by simp [Value.formed, Try.underlying109, cells102]
theorem cells3 : Try.prog.cellsOf 3 = 1 := by kernel_rfl
theorem lits3 {a : Int} (ha : I64 a) (d : Nat) : Try.prog.keyLits (d + 1) 3 [.int .i64 a] = some [.int .i64 a] := by
  have wa := WalkArith.wf_i64 ha
  unfold Program.keyLits
  rw [Try.underlying3]
  simp [wa]
theorem lits102 {a b : Int} (ha : I64 a) (hb : I64 b) (d : Nat) : Try.prog.keyLits (d + 2) 109 [.int .i64 a, .int .i64 b] = some [.int .i64 a, .int .i64 b] := by
  have h := Try.underlying109
  unfold Program.keyLits
  generalize Try.prog.underlying 109 = u at *
  subst h
  simp only [cells102, cells3, List.length_cons, List.length_nil, if_true]
  have h1 := lits3 ha d
  have h2 := lits3 hb d
  simp [List.range_succ, h1, h2]
theorem keyType102 : Try.prog.keyType 109 = true := by kernel_rfl
theorem key102 {a b : Int} (ha : I64 a) (hb : I64 b) : ∃ l, keyOf Try.prog 109 (.agg #[.int .i64 a, .int .i64 b]) = some l := by
  obtain ⟨d, hd⟩ : ∃ d, Try.prog.types.size + 1 = d + 2 := ⟨Try.prog.types.size - 1, by have : (109 : Nat) < Try.prog.types.size := row102; omega⟩
  have hl := lits102 ha hb d
  refine ⟨.string (keyBytes [.int .i64 a, .int .i64 b]), ?_⟩
  have h := Try.underlying109
  have hf : (Value.agg #[.int .i64 a, .int .i64 b]).formed Try.prog 109 = true := formed102
  unfold keyOf
  rw [keyType102, hf, hd]
  generalize Try.prog.underlying 109 = u at *
  subst h
  simp [Value.cells, hl]
end Go.Proofs
namespace Go.Proofs
open Go.RowKit Go.Shelf Go.Proofs.Ct Go.Maps
def pkey (r g : Nat) : Value := .agg #[.int .i64 (r : Int), .int .i64 ((g + 1 : Nat) : Int)]
def Sml (r g : Nat) : Prop := r ≤ 1000000 ∧ g ≤ 1000000
theorem pkey_lit {r g : Nat} (h : Sml r g) : ∃ l, keyOf Try.prog 109 (pkey r g) = some l := key102 ⟨by omega, by have := h.1; omega⟩ ⟨by omega, by have := h.2; omega⟩
theorem pkey_inj {r g r' g' : Nat} {l : Lit} (h : keyOf Try.prog 109 (pkey r g) = some l) (h' : keyOf Try.prog 109 (pkey r' g') = some l) : r = r' ∧ g = g' := by
  have := law102.inj h h'
  unfold pkey at this
  injection this with h1
  have h2 : (r : Int) = r' := by have := congrArg (fun a : Array Value => a[0]?) h1; simpa using this
  have h3 : ((g + 1 : Nat) : Int) = ((g' + 1 : Nat) : Int) := by have := congrArg (fun a : Array Value => a[1]?) h1; simpa using this
  omega
/-- block b is a map from the pairs of ps to their places, from 1 on -/
def MapP (w : World) (b : Nat) (ps : List (Nat × Nat)) : Prop :=
  ∃ n D, n ≤ ps.length ∧ w.ownsMap (H := Unit) Try.prog 109 (plainElem Try.prog 3) b n D ∧
    ∀ r g l, Sml r g → keyOf Try.prog 109 (pkey r g) = some l → D.atKey l (.lit (.int .i64 0)) = .lit (.int .i64 (placeP ps r g))
theorem MapP.made (w : World) : MapP (w.alloc (.map #[] 0)) w.heap.size [] :=
  ⟨0, .map [], Nat.le_refl _, World.ownsMap_made _ _ _ _, fun r g l _ _ => by simp [placeP, DataW.atKey]⟩
theorem MapP.kept {w w' : World} {b : Nat} {ps : List (Nat × Nat)} {row : Option Nat} (h : MapP w b ps) (hg : w.grownBy w' row) (hne : row ≠ some b) : MapP w' b ps := by
  obtain ⟨n, D, h1, h2, h3⟩ := h
  exact ⟨n, D, h1, h2.kept hg (Ne.symm hne), h3⟩
theorem MapP.lt {w : World} {b : Nat} {ps : List (Nat × Nat)} (h : MapP w b ps) : b < w.heap.size := by
  obtain ⟨n, D, h1, h2, h3⟩ := h
  exact h2.lt
theorem MapP.below {w w' : World} {b : Nat} {ps : List (Nat × Nat)} (h : MapP w b ps) (hb : Below w.heap.size w w') : MapP w' b ps :=
  h.kept (row := none) ⟨hb.os, hb.tape, hb.output, hb.size, fun k hk _ => hb.block k hk⟩ (by simp)
theorem MapP.isMapObj {w : World} {b : Nat} {ps : List (Nat × Nat)} (h : MapP w b ps) : ∃ es clock, w.heap[b]? = some (.map es clock) := by
  obtain ⟨n, D, h1, ⟨es, clock, hb, -⟩, h3⟩ := h
  exact ⟨es, clock, hb⟩
theorem MapP.look {w : World} {b : Nat} {ps : List (Nat × Nat)} (h : MapP w b ps) {r g : Nat} (hs : Sml r g) : (Instr.lookup 97 (.map (some b)) (pkey r g) false).run Try.prog w = .ok (.int .i64 (placeP ps r g)) w := by
  obtain ⟨n, D, h1, h2, h3⟩ := h
  obtain ⟨l, hl⟩ := pkey_lit hs
  obtain ⟨c, hr, hat, -⟩ := h2.lookup_int law102 Try.underlying97 Try.underlying3 (zero3 w) hl
  rw [h3 r g l hs hl] at hat
  have : placeP ps r g = c := by simpa using hat
  rw [this]
  exact hr
theorem placeP_new {ps : List (Nat × Nat)} {r g : Nat} (hn : (r, g) ∉ ps) : placeP (ps ++ [(r, g)]) r g = (ps.length : Int) + 1 := by
  unfold placeP
  rw [if_pos (by simp), List.idxOf_append, if_neg hn]
  simp
theorem placeP_old {ps : List (Nat × Nat)} {r g r' g' : Nat} (hne : ¬ (r' = r ∧ g' = g)) : placeP (ps ++ [(r, g)]) r' g' = placeP ps r' g' := by
  unfold placeP
  have hne' : (r', g') ≠ (r, g) := fun e => hne ⟨congrArg Prod.fst e, congrArg Prod.snd e⟩
  by_cases hm : (r', g') ∈ ps
  · rw [if_pos hm, if_pos (by simp [hm]), List.idxOf_append, if_pos hm]
  · rw [if_neg hm, if_neg (by simp [hm]; exact fun e h => hne ⟨e, h⟩)]
theorem MapP.put {w : World} {b : Nat} {ps : List (Nat × Nat)} (h : MapP w b ps) {r g : Nat} (hs : Sml r g) (hl : ps.length ≤ 1000000) (hn : (r, g) ∉ ps) :
    ∃ w', (Instr.mapUpdate 97 (.map (some b)) (pkey r g) (.int .i64 ((ps.length : Int) + 1))).run Try.prog w = .ok () w' ∧ MapP w' b (ps ++ [(r, g)]) ∧ w.grownBy w' (some b) := by
  obtain ⟨n, D, h1, h2, h3⟩ := h
  obtain ⟨l, hkl⟩ := pkey_lit hs
  obtain ⟨w', hr, ho, hg⟩ := h2.update (val := .int .i64 ((ps.length : Int) + 1)) law102 Try.underlying97 (by unfold maxLen; omega) hkl (plainElem_int Try.underlying3 (WalkArith.wf_i64 (by omega)))
  refine ⟨w', hr, ⟨n + 1, _, by simp; omega, ho, fun r' g' l' hs' hl' => ?_⟩, hg⟩
  by_cases e : r' = r ∧ g' = g
  · obtain ⟨rfl, rfl⟩ := e
    have : l' = l := by rw [hkl] at hl'; exact (Option.some.inj hl').symm
    subst this
    rw [Maps.atKey_put_same h2.isMap (law102.key hkl), placeP_new hn]
  · have hne : l' ≠ l := fun e' => e (by subst e'; exact pkey_inj hl' hkl)
    rw [Maps.atKey_put_other hne, h3 r' g' l' hs' hl', placeP_old e]
/-- the cells of a list of pairs -/
def pcells (ps : List (Nat × Nat)) : List Value := ps.flatMap fun p => [.int .i64 (p.1 : Int), .int .i64 ((p.2 + 1 : Nat) : Int)]
theorem pcells_snoc (ps : List (Nat × Nat)) (p : Nat × Nat) : pcells (ps ++ [p]) = pcells ps ++ [.int .i64 (p.1 : Int), .int .i64 ((p.2 + 1 : Nat) : Int)] := by simp [pcells]
abbrev OwnP (base : Nat) (w : World) (v : Value) (ps : List (Nat × Nat)) : Prop := w.ownsRow base 109 2 v ps.length (pcells ps)
theorem info102p : ∃ i, Try.prog.info? 109 = some i ∧ i.zero = some (.agg #[.int .i64 0, .int .i64 0]) ∧ i.size = 2 ∧ i.bytes = 16 := by
  have h : (Try.prog.info? 109).map (fun i => (i.zero, i.size, i.bytes)) = some (some (.agg #[.int .i64 0, .int .i64 0]), 2, 16) := by kernel_rfl
  cases hq : Try.prog.info? 109 with
  | none => simp [hq] at h
  | some i => simp [hq] at h; exact ⟨i, rfl, h⟩
theorem owns_form2 {w : World} {base e size n : Nat} {v : Value} {xs : List Value} (h : w.ownsRow base e size v n xs) : ∃ A c, v = .slice A n c := by
  rcases h.2 with ⟨rfl, rfl⟩ | ⟨g, cap, cur, rfl, -⟩
  · exact ⟨none, 0, rfl⟩
  · exact ⟨_, _, rfl⟩
theorem owns_block2 {w : World} {base e size n : Nat} {v : Value} {xs : List Value} (h : w.ownsRow base e size v n xs) : ∀ r, v.ownBlock = some r → base ≤ r ∧ ∃ C, w.heap[r]? = some (.cells C e (0, 0)) := fun r hr => by
  rcases h.2 with ⟨rfl, -⟩ | ⟨g, cap, cur, rfl, hb, hg, -⟩
  · cases hr
  · have : g = r := Option.some.inj hr
    subst this
    exact ⟨hb, cur, hg⟩
theorem push_pair (w : World) (base : Nat) (v : Value) (ps : List (Nat × Nat)) (h : OwnP base w v ps) (p : Nat × Nat) (hx : ps.length ≤ 1000000) (hb : base ≤ w.heap.size) :
    ∃ A' c' w', (Builtin.append_ #[98, 98] 98 #[v, .slice (some ⟨w.heap.size, 0, none⟩) 1 1]).run Try.prog (w.alloc (.cells #[.int .i64 (p.1 : Int), .int .i64 ((p.2 + 1 : Nat) : Int)] 109)) = .ok (.slice A' (ps.length + 1) c') w' ∧ OwnP base w' (.slice A' (ps.length + 1) c') (ps ++ [p]) ∧
      w.grownBy w' v.ownBlock := by
  obtain ⟨i, hi, hz, hs, hby⟩ := info102p
  have hal : Below w.heap.size w (w.alloc (.cells #[.int .i64 (p.1 : Int), .int .i64 ((p.2 + 1 : Nat) : Int)] 109)) := (Below.refl _ _).alloc (Nat.le_refl _) _
  obtain ⟨v', w', hr, hown', hg, -, hw⟩ := run_append_own_at (P := Try.prog) (w.alloc (.cells #[.int .i64 (p.1 : Int), .int .i64 ((p.2 + 1 : Nat) : Int)] 109)) base 98 98 109 i (.agg #[.int .i64 0, .int .i64 0]) 2 16 Try.underlying98 hi hz hs hby rfl (by omega) v ps.length (pcells ps) (owns_below h hal) ⟨w.heap.size, 0, none⟩ 1 1 [.int .i64 (p.1 : Int), .int .i64 ((p.2 + 1 : Nat) : Int)] rfl
    (fun j u hj => by
      rw [Addr.add_lit, cell_of_row _ _ _ _ _ _ (heap_alloc_new w _), Nat.zero_add]
      simpa using hj) (fun u hu => by
      have : u = .int .i64 (p.1 : Int) ∨ u = .int .i64 ((p.2 + 1 : Nat) : Int) := by simpa using hu
      rcases this with rfl | rfl <;> rfl) (by unfold maxLen; omega) (by omega) (by have := hal.size; omega)
  obtain ⟨A', c', rfl⟩ := owns_form2 hown'
  refine ⟨A', c', w', hr, ?_, ?_⟩
  · unfold OwnP
    rw [List.length_append, pcells_snoc]
    exact hown'
  · exact ⟨hg.os, hg.tape, hg.output, Nat.le_trans hal.size hg.size, fun k hk hne => (hg.block k (Nat.lt_of_lt_of_le hk hal.size) hne).trans (hal.block k hk)⟩
end Go.Proofs
namespace Go.Proofs
open Go.RowKit Go.Shelf Go.Proofs.Ct Go.Maps
/-- the column of a letter -/
def ColOf (x : Int) (c : Nat) : Prop := (0 < x ∧ 2 * x - 2 = (c : Int)) ∨ (x < 0 ∧ -2 * x - 1 = (c : Int))
set_option maxRecDepth 100000 in
theorem step70_any (w : World) (vt : Value) (A1 : Option Addr) (n1 c1 : Nat) (t : Tb) (r : Nat) (x : Int) (c : Nat) (ht : Tab w vt t) (hr : r < t.length) (hc : c < (t.row r).length) (hx : ColOf x c) (hb : -1000 ≤ x ∧ x ≤ 1000) :
    Calls Try.prog 94 #[.agg #[vt, .slice A1 n1 c1], .int .i64 (r : Int), .int .i64 x] w fun e w' => e = .returned (.int .i64 (t.at r c)) ∧ Below w.heap.size w w' := by
  obtain ⟨A0, c0, rfl, h1, h2, h3⟩ := ht.open_
  obtain ⟨bt, ot, rfl, h4⟩ := h3 (by omega)
  obtain ⟨u, hu, hI⟩ := h4 r hr
  have hI2 : IntsAt w u (t.row r) := hI
  obtain ⟨Au, cu, rfl, hu1, hu2, huc⟩ := hI2.open_
  obtain ⟨bu, ou, rfl, huc'⟩ := huc (by omega)
  have hcc := huc' c hc
  have hb1 : bt < w.heap.size := World.block_lt_of_cell? w _ hu
  have hb2 : bu < w.heap.size := World.block_lt_of_cell? w _ hcc
  have hbel : Below w.heap.size w (w.alloc (.cells #[.slice (some ⟨bt, ot, none⟩) t.length c0, .slice A1 n1 c1] 96)) := (Below.refl _ _).alloc (Nat.le_refl _) _
  have hu' := (hbel.cell (p := ⟨bt, ot + r, none⟩) hb1).trans hu
  have hcc' := (hbel.cell (p := ⟨bu, ou + c, none⟩) hb2).trans hcc
  have HB := Lib.hid hbel
  have hat : (t.row r).getD c 0 = t.at r c := rfl
  rw [hat] at hcc hcc'
  have hr0 : (0 : Int) ≤ (r : Int) := Int.natCast_nonneg _
  have hr1 : (r : Int) < (t.length : Int) := by omega
  have hc0 : (0 : Int) ≤ (c : Int) := Int.natCast_nonneg _
  have hc1' : (c : Int) < ((t.row r).length : Int) := by omega
  obtain ⟨hx1, hx2⟩ := hb
  clear h3 h4 hI hI2 huc huc' hat ht hbel
  generalize t.at r c = y at *
  rcases hx with ⟨hp, he⟩ | ⟨hp, he⟩
  · have hm : max (2 * x - 2) (-2 * x - 1) = (c : Int) := by omega
    have hle : (-2 * x - 1) ≤ (2 * x - 2) := by omega
    go_enter Try.func94, Try.ntmps94
    go_wp2_with fail
    go_ret
    exact ⟨rfl, HB.out⟩
  · have hm : max (2 * x - 2) (-2 * x - 1) = (c : Int) := by omega
    have hle : ¬ (-2 * x - 1) ≤ (2 * x - 2) := by omega
    go_enter Try.func94, Try.ntmps94
    go_wp2_with fail
    go_ret
    exact ⟨rfl, HB.out⟩
set_option maxRecDepth 100000 in
theorem number119_any (w : World) (bm : Nat) (A1 : Option Addr) (n1 c1 : Nat) (ps : List (Nat × Nat)) (r g : Nat) (hm : MapP w bm ps) (hs : Sml r g) :
    Calls Try.prog 165 #[.agg #[.map (some bm), .slice A1 n1 c1], .int .i64 (r : Int), .int .i64 ((g + 1 : Nat) : Int)] w fun e w' => e = .returned (.int .i64 (placeP ps r g)) ∧ Below w.heap.size w w' := by
  have hbel : Below w.heap.size w (w.alloc (.cells #[.map (some bm), .slice A1 n1 c1] 100)) := (Below.refl _ _).alloc (Nat.le_refl _) _
  have hl := (hm.below hbel).look hs
  unfold pkey at hl
  have HB := Lib.hid hbel
  have HL := Lib.hid hl
  clear hm hbel hl
  generalize placeP ps r g = y at *
  generalize ((g + 1 : Nat) : Int) = x at *
  go_enter Try.func165, Try.ntmps165
  go_wp2_with ((with_reducible refine wpList_sel 12 ?_); refine wpList_val rfl (r_look 97 (.tmp 8) (.tmp 11) rfl rfl rfl HL.out) ?_)
  go_ret
  exact ⟨rfl, HB.out⟩
end Go.Proofs
