/- The walk of CosetConjugates (printed by genS7.py); Arguments opened: lists of numbers, tables, presentations. -/
import Derived.Test.YtcfighimnkfmeaaCjCS20
import Derived.Test.YtcfighimnkfmeaaCjCS1
import Derived.ProofKit
import Derived.Deep.Slices
import Derived.Deep.Strs
namespace Go.Proofs
open Go.RowKit Go.Shelf Go.Proofs.Ct Go.Maps
set_option maxRecDepth 100000 in
set_option maxHeartbeats 8000000 in
theorem conj12_any (w : World) (which base : Int) (vl vk : Value) (l k : List Int) (hl : IntsAt w vl l) (hk : IntsAt w vk k) (hw : -9223372036854775808 ≤ which ∧ which ≤ 9223372036854775807) :
    Calls Try.prog 12 #[.int .i64 which, vl, vk, .int .i64 base] w fun e w' => e = .returned (.bool true) ∧ Below w.heap.size w w' := by
  have HL := Lib.hid hl
  have HK := Lib.hid hk
  obtain ⟨Al, cl, rfl, hl1, hl2, -⟩ := hl.open_
  obtain ⟨Ak, ck, rfl, hk1, hk2, -⟩ := hk.open_
  have hl3 : (l.length : Int) ≤ 9223372036854775807 := by omega
  have hk3 : (k.length : Int) ≤ 9223372036854775807 := by omega
  have hl4 : (0 : Int) ≤ (l.length : Int) := Int.natCast_nonneg _
  have hk4 : (0 : Int) ≤ (k.length : Int) := Int.natCast_nonneg _
  have HW := Lib.hid hw
  clear hl hk hl1 hl2 hk1 hk2 hw
  by_cases a1 : 80 < (l.length : Int)
  · go_enter Try.func12, Try.ntmps12
    go_wp2_with fail
    refine (known9_any _).mono ?_
    rintro e v1 ⟨rfl, hb⟩
    have HB1 := Lib.hid hb
    clear hb
    go_wp2_with fail
    go_ret
    exact ⟨rfl, HB1.out⟩
  have a1' : (l.length : Int) ≤ 80 := by omega
  clear a1
  by_cases a2 : 30 < (k.length : Int)
  · go_enter Try.func12, Try.ntmps12
    go_wp2_with fail
    refine (known9_any _).mono ?_
    rintro e v1 ⟨rfl, hb⟩
    have HB1 := Lib.hid hb
    clear hb
    go_wp2_with fail
    go_ret
    exact ⟨rfl, HB1.out⟩
  have a2' : (k.length : Int) ≤ 30 := by omega
  clear a2
  obtain ⟨g, hg0, hg1, hg2, hg3, hg4, t, d1, m1, e1, hE1, hC⟩ := conj_all which l k
  have HC := Lib.hid hC
  have HSW := Lib.hid hg4
  have HG : Hid (∀ W, Below w.heap.size w W → Calls Try.prog 57 #[.int .i64 which, .slice Al l.length cl] W fun e w' => (∃ A c, e = .returned (.agg #[.int .i64 (g : Int), .slice A (givenP 6 which l).2.length c]) ∧ Tab w' (.slice A (givenP 6 which l).2.length c) (givenP 6 which l).2) ∧ Below W.heap.size W w') := Lib.hid fun W h => by
    rw [← hg0]
    exact given57_any W which _ l (HL.out.below h) (by omega) HW.out
  have HS : Hid (∀ W, Below w.heap.size w W → Calls Try.prog 58 #[.slice Ak k.length ck, .int .i64 (g : Int)] W fun e w' => (∃ A c, e = .returned (.slice A (lawWords g 6 k).length c) ∧ Tab w' (.slice A (lawWords g 6 k).length c) (lawWords g 6 k)) ∧ Below W.heap.size W w') := Lib.hid fun W h =>
    (words58_any W _ k g (HK.out.below h) (by omega) (by omega)).mono fun e w' (⟨⟨A, c, h1, h2⟩, h3⟩ : LawWordsPost _ W e w') => ⟨⟨A, c, h1, h2.at_⟩, h3⟩
  have H32 := Lib.hid (enumS g (givenP 6 which l).2 (lawWords g 6 k) 300 t d1 m1 e1 hE1 (fun j => by have := hg4.short j; omega) (by have := hg4.len; omega))
  clear hC hg3 hg4 hg0 hE1
  generalize (givenP 6 which l).2 = rels at *
  generalize lawWords g 6 k = sub at *
  go_enter Try.func12, Try.ntmps12
  go_wp2_with fail
  refine (known9_any _).mono ?_
  rintro e v1 ⟨rfl, hb⟩
  have HB1 := Lib.hid hb
  clear hb
  go_wp2_with fail
  refine (HG.out _ HB1.out).mono ?_
  rintro e v2 ⟨⟨A2, c2, rfl, ht⟩, hb⟩
  have HB2 := Lib.hid (bl3 HB1.out hb)
  have HT2 := Lib.hid ht
  clear ht hb
  have HLD := Lib.hid (box40 v2 (.int .i64 (g : Int)) (.slice A2 rels.length c2))
  have hal := (Below.refl v2.heap.size v2).alloc (Nat.le_refl _) (.cells #[.int .i64 (g : Int), .slice A2 rels.length c2] 40)
  have HT3 := Lib.hid (kept_tab.below HT2.out hal)
  have HB3 := Lib.hid (bl3 HB2.out hal)
  have HR3 := Lib.hid (Below.refl (v2.alloc (.cells #[.int .i64 (g : Int), .slice A2 rels.length c2] 40)).heap.size (v2.alloc (.cells #[.int .i64 (g : Int), .slice A2 rels.length c2] 40)))
  clear hal
  go_wp2_with fail
  generalize hw3 : v2.alloc (.cells #[.int .i64 (g : Int), .slice A2 rels.length c2] 40) = v3 at *
  generalize v2.heap.size = B at *
  refine (HS.out _ HB3.out).mono ?_
  rintro e v4 ⟨⟨A4, c4, rfl, ht⟩, hb⟩
  have HR4 := Lib.hid (bl3 HR3.out hb)
  have HS4 := Lib.hid ht
  clear ht hb HR3 HG HS hw3
  have HTR : Hid (∀ W, Below v3.heap.size v3 W → Tab W (.slice A2 rels.length c2) rels) := Lib.hid fun W h => kept_tab.below HT3.out h
  go_wp2_with (first
    | ((with_reducible refine wpList_sel 45 ?_); refine wpList_val rfl (r_loadAt 40 (.tmp 10) _ _ rfl rfl (HLD.out _ HR4.out).1) ?_))
  refine (H32.out _ _ _ (HTR.out _ HR4.out) HS4.out).mono ?_
  rintro e v6 ⟨⟨u6, rfl, ht⟩, hb⟩
  obtain ⟨A6, c6, rfl⟩ := Tab.form ht
  have hal := (Below.refl v6.heap.size v6).alloc (Nat.le_refl _) (.cells #[.int .i64 d1, .int .i64 m1, .int .i64 0] 49)
  have HR6 := Lib.hid (bl3 (bl3 HR4.out hb) hal)
  have HS6 := Lib.hid (kept_tab.below (kept_tab.below HS4.out hb) hal)
  have HT6 := Lib.hid (kept_tab.below ht hal)
  clear hal hb ht H32 HS4 HR4
  rcases HC.out with rfl | ⟨rfl, hn1, hn2, hC⟩
  · go_wp2_with fail
    go_ret
    exact ⟨rfl, bl3 HB3.out HR6.out⟩
  have hn1' : 1 ≤ (t.length : Int) := by omega
  have hn2' : (t.length : Int) ≤ 300 := by omega
  by_cases hn40 : 40 < t.length
  · have hn4 : 40 < (t.length : Int) := by omega
    clear hC HC
    go_wp2_with fail
    go_ret
    exact ⟨rfl, bl3 HB3.out HR6.out⟩
  have hn4 : (t.length : Int) ≤ 40 := by omega
  have hb0 := Int.emod_nonneg base (show (t.length : Int) ≠ 0 by omega)
  have hb1 := Int.emod_lt_of_pos base (show (0 : Int) < (t.length : Int) by omega)
  obtain ⟨b, hbb⟩ := Int.eq_ofNat_of_zero_le hb0
  have hbn : b < t.length := by omega
  have hCT := hC (by omega) b hbn
  have H59 : Hid (∀ W, Calls Try.prog 59 #[.int .i64 base, .int .i64 (t.length : Int)] W fun e w' => e = .returned (.int .i64 (b : Int)) ∧ w' = W) := Lib.hid fun W => by
    have := turn59_any W base t.length (by omega)
    rwa [hbb] at this
  have hf := (HLD.out _ HR6.out).2
  have H44 : Hid (∀ W v, Tab W v t → Calls Try.prog 44 #[.int .i64 (g : Int), v] W fun e w' => e = .returned (.tuple #[.int .i64 0, .int .i64 (-1)]) ∧ ∃ q, w' = W.drewN q) := Lib.hid fun W v h => (check44_any W v g t h).mono fun e w' (⟨h1, h2⟩ : CheckPostQ (g : Int) t W e w') => by
    rw [check_of_good hCT.full.good] at h1
    exact ⟨h1, h2⟩
  have H46 : Hid (∀ W v, Tab W v t → Calls Try.prog 46 #[v] W fun e w' => e = .returned (.bool true) ∧ ∃ q, w' = W.drewN q) := Lib.hid fun W v h => (complete46_any W v t h).mono fun e w' ⟨h1, h2⟩ => by
    rw [complete_full hCT.full] at h1
    exact ⟨h1, h2⟩
  have H50 : Hid (∀ W v, Tab W v t → Calls Try.prog 50 #[.int .i64 (g : Int), v] W fun e w' => (∃ A c, e = .returned (.tuple #[.slice A t.length c, .int .i64 0]) ∧ Tab w' (.slice A t.length c) (reps t)) ∧ Below W.heap.size W w') := Lib.hid fun W v h =>
    (repsK g t (reps t) 0 hCT.reps W v h).mono fun e w' ⟨⟨u, h1, h2⟩, h3⟩ => by
      obtain ⟨A', c', rfl⟩ := Tab.form h2
      rw [hCT.rl] at h1 h2
      exact ⟨⟨A', c', h1, h2⟩, h3⟩
  have H48 := Lib.hid (stdK g t b (stdT t b) 0 hCT.st)
  obtain ⟨u, d2, m2, e2, hE2, he2⟩ := hCT.enum
  have H35 := Lib.hid (holdsK g rels (conj ((reps t).getD b []) sub) (stdT t b) true 0 hCT.holds)
  have H32b := Lib.hid (enumS g rels (conj ((reps t).getD b []) sub) 1000 u d2 m2 e2 hE2 (fun j => by have := hCT.wds.short j; omega) (by have := hCT.wds.len; omega))
  have H62 : Hid (∀ W v vr, Tab W v t → Tab W vr (reps t) → Calls Try.prog 62 #[.int .i64 (g : Int), v, vr] W fun e w' => e = .returned (.bool true) ∧ Below W.heap.size W w') := Lib.hid fun W v vr h1 h2 => least62_any W g t v vr hg2 h1 h2 hCT.full hCT.std (by omega)
  have HRB := Lib.hid hCT.rb
  have HRL := Lib.hid hCT.rl
  have HE2 := Lib.hid he2
  have HBN := Lib.hid hbn
  have HN := Lib.hid hn1
  clear hC HC hCT hE2 he2 hbb hb0 hb1 hn40
  go_wp2_with fail
  generalize v6.alloc (.cells #[.int .i64 d1, .int .i64 m1, .int .i64 0] 49) = W6 at *
  refine (H44.out _ _ HT6.out).mono ?_
  rintro e v7 ⟨rfl, q7, rfl⟩
  have HR7 := Lib.hid (below_drewN HR6.out q7)
  have HT7 : Hid (Tab (W6.drewN q7) (.slice A6 t.length c6) t) := Lib.hid (kept_tab.below HT6.out (below_drewN (Below.refl _ _) q7))
  have HS7 : Hid (Tab (W6.drewN q7) (.slice A4 sub.length c4) sub) := Lib.hid (kept_tab.below HS6.out (below_drewN (Below.refl _ _) q7))
  generalize W6.drewN q7 = v7 at *
  clear hf HT6 HS6 HR6
  go_wp2_with fail
  refine (H46.out _ _ HT7.out).mono ?_
  rintro e v8 ⟨rfl, q8, rfl⟩
  have HR8 := Lib.hid (below_drewN HR7.out q8)
  have HT8 : Hid (Tab (v7.drewN q8) (.slice A6 t.length c6) t) := Lib.hid (kept_tab.below HT7.out (below_drewN (Below.refl _ _) q8))
  have HS8 : Hid (Tab (v7.drewN q8) (.slice A4 sub.length c4) sub) := Lib.hid (kept_tab.below HS7.out (below_drewN (Below.refl _ _) q8))
  generalize v7.drewN q8 = v8 at *
  clear HT7 HS7 HR7
  go_wp2_with fail
  refine (H59.out _).mono ?_
  rintro e v9 ⟨rfl, rfl⟩
  have hf := (HLD.out _ HR8.out).2
  go_wp2_with fail
  refine (H50.out _ _ HT8.out).mono ?_
  rintro e v10 ⟨⟨A10, c10, rfl, ht⟩, hb⟩
  have HR10 := Lib.hid (bl3 HR8.out hb)
  have HT10 := Lib.hid (kept_tab.below HT8.out hb)
  have HS10 := Lib.hid (kept_tab.below HS8.out hb)
  have HV10 := Lib.hid ht
  clear hf hb ht HT8 HS8 HR8
  obtain ⟨A9', c9', e9, -, -, hvc⟩ := LAt.open_ HV10.out
  rw [HRL.out] at e9 hvc
  obtain ⟨b9, o9, rfl, hrr⟩ := (by obtain ⟨rfl, -, rfl⟩ := Value.slice.inj e9; exact hvc (by have := HN.out; omega) : ∃ b off, A10 = some ⟨b, off, none⟩ ∧ ∀ k, k < t.length → ∃ u, v10.cell? ⟨b, off + k, none⟩ = some u ∧ IntsAt v10 u ((reps t).getD k []))
  obtain ⟨ub, hub, hib⟩ := hrr b HBN.out
  obtain ⟨Au, cu, rfl, -, -, hcu⟩ := hib.open_
  have HXX : Hid (∀ j, -3 ≤ ((reps t).getD b []).getD j 0 ∧ ((reps t).getD b []).getD j 0 ≤ 3) := Lib.hid fun j => by
    rcases Nat.lt_or_ge j ((reps t).getD b []).length with hj | hj
    · rw [List.getD_eq_getElem?_getD (i := j), List.getElem?_eq_getElem hj]
      have := HRB.out.1 _ (List.getElem_mem hj)
      simp only [Option.getD_some]
      omega
    · rw [List.getD_eq_getElem?_getD (i := j), List.getElem?_eq_none hj]
      simp
  have HFB : Hid (Fits (Ct.inv ((reps t).getD b []))) := Lib.hid (fits_ok (g := g) (by omega) HRB.out.1.inv)
  have hwl := HRB.out.2
  have HV : Hid (∀ W, Below v10.heap.size v10 W → Tab W (.slice (some ⟨b9, o9, none⟩) t.length c10) (reps t)) := Lib.hid fun W h => kept_tab.below HV10.out h
  clear hrr hvc e9 HV10
  generalize (reps t).getD b [] = ws at *
  have HRC : Hid (∀ W, Below v10.heap.size v10 W → W.cell? ⟨b9, o9 + b, none⟩ = some (.slice Au ws.length cu) ∧ IntsAt W (.slice Au ws.length cu) ws) := Lib.hid fun W h => ⟨(h.cell (p := ⟨b9, o9 + b, none⟩) (World.block_lt_of_cell? v10 _ hub)).trans hub, hib.below h⟩
  have hwl1 : (ws.length : Int) ≤ 40 := by omega
  have hwl0 : (0 : Int) ≤ (ws.length : Int) := Int.natCast_nonneg _
  have hb0' : (0 : Int) ≤ (b : Int) := Int.natCast_nonneg _
  have hbt : (b : Int) < (t.length : Int) := by have := HBN.out; omega
  have HWL := Lib.hid hwl
  have x1 := hub
  clear hib hcu hwl hub
  go_wp2_with fail
  clear x1
  go_loopw [18, 19] (fun vb i wr => ∃ j : Nat, i = .int .i64 ((j : Int) - 1) ∧ j ≤ ws.length ∧ ∃ A c, vb = .slice A (ws.length - j) c ∧ Hid (OwnI v10.heap.size wr vb (Ct.inv (ws.drop j))) ∧ Hid (Below v10.heap.size v10 wr)) (fun _ i _ => (intOf i + 1).toNat)
  case atStart => exact ⟨ws.length, rfl, Nat.le_refl _, none, 0, by rw [Nat.sub_self], Lib.hid (by rw [List.drop_length]; exact World.ownsRow_nil _ _ _ _), Lib.hid (Below.refl _ _)⟩
  case round =>
    obtain ⟨j, rfl, hj, Ab, cb, rfl, HOB, HBj⟩ := hrel
    by_cases hj0 : 0 < j
    · obtain ⟨q, rfl⟩ : ∃ q, j = q + 1 := ⟨j - 1, by omega⟩
      have ej : ((q + 1 : Nat) : Int) - 1 = (q : Int) := by omega
      rw [ej]
      have hq0 : (0 : Int) ≤ (q : Int) := Int.natCast_nonneg _
      have hql : (q : Int) < (ws.length : Int) := by omega
      obtain ⟨x1, hI⟩ := HRC.out _ HBj.out
      obtain ⟨A', c', e', -, -, hcc⟩ := hI.open_
      obtain ⟨bu, ou, rfl, hc2⟩ := (by obtain ⟨rfl, -, rfl⟩ := Value.slice.inj e'; exact hcc (by omega) : ∃ b off, Au = some ⟨b, off, none⟩ ∧ ∀ k, k < ws.length → wr.cell? ⟨b, off + k, none⟩ = some (.int .i64 (ws.getD k 0)))
      have x2 := hc2 q (by omega)
      obtain ⟨hz1, hz2⟩ := HXX.out q
      obtain ⟨A2', c2', w12, hr12, ho12, hg12, -⟩ := push_int 25 25 Try.underlying25 wr v10.heap.size _ _ HOB.out (-(ws.getD q 0)) (by rw [length_inv, List.length_drop]; omega) HBj.out.size
      have hb12 : Below v10.heap.size v10 w12 := HBj.out.grown hg12 HBj.out.size fun r hr => (owns_block HOB.out r hr).1
      have hst := back_step (R := ws) (j := q + 1) (by omega) (by omega)
      rw [show q + 1 - 1 = q by omega] at hst
      rw [← hst] at ho12
      rw [length_inv, List.length_drop] at hr12 ho12
      have el : ws.length - (q + 1) + 1 = ws.length - q := by omega
      rw [el] at hr12 ho12
      have HR12 := Lib.hid hr12
      have HO12 := Lib.hid ho12
      have HB12 := Lib.hid hb12
      clear hr12 ho12 hb12 hst el hc2 hcc e' hI HOB hg12 ej
      generalize ws.getD q 0 = xq at *
      go_wp2_with (first
        | ((with_reducible refine wpList_sel 126 ?_); refine wpList_val rfl (r_app (.tmp 116) (.tmp 125) 25 rfl rfl rfl HR12.out) ?_))
      go_roundw
      case rel => exact ⟨q, by go_num, by omega, A2', c2', rfl, HO12, HB12⟩
      case measure => simp [intOf]
    · obtain rfl : j = 0 := by omega
      rename World => wb
      rw [List.drop_zero] at HOB
      have HVB : Hid (∀ W, Below wb.heap.size wb W → IntsAt W (.slice Ab ws.length cb) (Ct.inv ws)) := Lib.hid fun W h => (OwnI.ints HOB.out HFB.out).below h
      have HWB := Lib.hid (bl3 HR10.out HBj.out)
      have HSB := Lib.hid (kept_tab.below HS10.out HBj.out)
      have HCB : Hid (∀ W, Below wb.heap.size wb W → W.cell? ⟨b9, o9 + b, none⟩ = some (.slice Au ws.length cu) ∧ IntsAt W (.slice Au ws.length cu) ws) := Lib.hid fun W h => HRC.out _ (bl3 HBj.out h)
      have HTB : Hid (∀ W, Below wb.heap.size wb W → Tab W (.slice A6 t.length c6) t ∧ Tab W (.slice (some ⟨b9, o9, none⟩) t.length c10) (reps t)) := Lib.hid fun W h => ⟨kept_tab.below HT10.out (bl3 HBj.out h), HV.out _ (bl3 HBj.out h)⟩
      have HNIL := Lib.hid (OutSt.nil 25 (Below.refl wb.heap.size wb))
      have hs6 := HSW.out.len
      have hs6' : (sub.length : Int) ≤ 6 := by omega
      clear HOB HRC HV HT10 HS10 HXX hs6
      have ej : ((0 : Nat) : Int) - 1 = -1 := rfl
      rw [ej, Nat.sub_zero]
      clear ej
      go_wp2_with fail
      go_loopw [20, 21] (fun so i wr => ∃ k : Nat, i = .int .i64 (k : Int) ∧ k ≤ sub.length ∧ ∃ A c, so = .slice A k c ∧ Hid (∃ F, OutSt 25 F wb wr so ((conj ws sub).take k))) (fun _ i _ => sub.length - (intOf i).toNat)
      case atStart => exact ⟨0, rfl, by omega, none, 0, rfl, Lib.hid ⟨_, HNIL.out⟩⟩
      case round =>
        obtain ⟨k, rfl, hk, Ao, co, rfl, HOS⟩ := hrel
        have hk0 : (0 : Int) ≤ (k : Int) := Int.natCast_nonneg _
        obtain ⟨F, hO⟩ := HOS.out
        have HBk := Lib.hid hO.below
        by_cases hlt : k < sub.length
        · have hlt' : (k : Int) < (sub.length : Int) := by omega
          obtain ⟨As', cs', es, -, -, hsc⟩ := LAt.open_ HSB.out
          obtain ⟨bs, os, rfl, hsr⟩ := (by obtain ⟨rfl, -, rfl⟩ := Value.slice.inj es; exact hsc (by omega) : ∃ b off, A4 = some ⟨b, off, none⟩ ∧ ∀ k, k < sub.length → ∃ u, wb.cell? ⟨b, off + k, none⟩ = some u ∧ IntsAt wb u (sub.getD k []))
          obtain ⟨uk, huk, hik⟩ := hsr k hlt
          obtain ⟨Ai, ci, rfl, -, -, -⟩ := hik.open_
          have hkl : ((conj ws sub).take k).length = k := by rw [List.length_take, length_conj]; omega
          obtain ⟨A1, c1, x1, A2, c2', x2, A3, c3, x3, A5, c5, x4, G, p1, p2, p3, p4, p5, p6, p7, p8⟩ := conj_push hO (HVB.out _ HBk.out) (hik.below HBk.out) (HCB.out _ HBk.out).2 (by rw [length_inv]; have := HWL.out; omega) (by have := HSW.out.short k; omega) (by have := HWL.out; omega) (by rw [hkl]; omega)
          rw [hkl] at p4 p5
          have e5 : (conj ws sub).take k ++ [Ct.inv ws ++ sub.getD k [] ++ ws] = (conj ws sub).take (k + 1) := by
            rw [take_snoc (d := []) (by rw [length_conj]; exact hlt), conj_getD hlt]
          rw [e5] at p5
          have HP1 := Lib.hid p1
          have HP2 := Lib.hid p2
          have HP3 := Lib.hid p3
          have HP4 := Lib.hid p4
          have HP5 : Hid (∃ F, OutSt 25 F wb x4 (.slice A5 (k + 1) c5) ((conj ws sub).take (k + 1))) := Lib.hid ⟨_, p5⟩
          have hda := bl3 (below_drew' wr) ((Below.refl _ _).alloc (Nat.le_refl _) (.cells #[] 3))
          have HSTG : Hid (∀ l1 l3 l8, Below wr.heap.size wr (stg l1 l3 l8 false false false wr.drew (wr.drew.alloc (.cells #[] 3)) x1 x2 x3 (x3.alloc (.cells #[.slice A3 (Ct.inv ws ++ sub.getD k [] ++ ws).length c3] 25)) x4)) := Lib.hid fun l1 l3 l8 => by
            cases l8 with
            | true => exact p7
            | false => cases l3 with
              | true => exact p6
              | false => cases l1 with
                | true => exact hda
                | false => exact below_drew' wr
          have HCI : Hid (∀ W, Below wr.heap.size wr W → W.cell? ⟨bs, os + k, none⟩ = some (.slice Ai (sub.getD k []).length ci)) := Lib.hid fun W h => by
            have h2 := bl3 HBk.out h
            exact (h2.cell (p := ⟨bs, os + k, none⟩) (World.block_lt_of_cell? wb _ huk)).trans huk
          have HCR : Hid (∀ W, Below wr.heap.size wr W → W.cell? ⟨b9, o9 + b, none⟩ = some (.slice Au ws.length cu)) := Lib.hid fun W h => (HCB.out _ (bl3 HBk.out h)).1
          have HLT := Lib.hid hlt
          clear p1 p2 p3 p4 p5 p6 p7 p8 hO HOS hsr hsc es huk hik hda e5 hkl
          rw [length_inv] at HP1 HP2
          generalize (Ct.inv ws ++ sub.getD k []).length = n2 at *
          generalize (Ct.inv ws ++ sub.getD k [] ++ ws).length = n3 at *
          generalize (sub.getD k []).length = n1 at *
          go_wp2_with fail
          refine (wpIn_wide (n := 3)).1 ?_
          refine wpIn_region_all (by kernel_rfl) 17 rfl (fun i => if i < 16 then some (133 + i) else some 20) (lex_of (by kernel_rfl)) (fun ls W => W = stg (ls 1) (ls 3) (ls 8) (ls 13) (ls 14) (ls 15) wr.drew (wr.drew.alloc (.cells #[] 3)) x1 x2 x3 (x3.alloc (.cells #[.slice A3 n3 c3] 25)) x4)
            (fun i v _ => v = ([(.slice Ao k co), .slice (some ⟨wr.heap.size, 0, none⟩) 0 0, .slice Ab ws.length cb, .slice A1 ws.length c1, .slice (some ⟨bs, os, none⟩) sub.length c4, .int .i64 (k : Int), .pointer (some ⟨bs, os + k, none⟩), .slice Ai n1 ci, .slice A2 n2 c2', .slice (some ⟨b9, o9, none⟩) t.length c10, .int .i64 (b : Int), .pointer (some ⟨b9, o9 + b, none⟩), .slice Au ws.length cu, .slice A3 n3 c3, .slice (some ⟨x3.heap.size, 0, none⟩) 1 1, .slice A5 (k + 1) c5, .slice A5 (k + 1) c5] : List Value).getD i undef) (fun _ _ _ => True) (dm_inj (by kernel_rfl)) (fun _ _ _ _ _ _ _ _ _ h => h) (dm_lt (n := 202) (by kernel_rfl)) rfl ?_ ?_
          · intro ls q o a w2 hq ho hS2 hls hcl hP hpre
            have hcases : q = 0 ∨ q = 1 ∨ q = 2 ∨ q = 3 ∨ q = 4 ∨ q = 5 ∨ q = 6 ∨ q = 7 ∨ q = 8 ∨ q = 9 ∨ q = 10 ∨ q = 11 ∨ q = 12 ∨ q = 13 ∨ q = 14 ∨ q = 15 ∨ q = 16 := by
              have : q < 17 := hq
              omega
            rcases hcases with rfl | rfl | rfl | rfl | rfl | rfl | rfl | rfl | rfl | rfl | rfl | rfl | rfl | rfl | rfl | rfl | rfl
            · obtain rfl := Option.some.inj ho
              have h15 := not_yet hcl 15 rfl ⟨0, .data⟩ (by simp) rfl hls
              have h16 := not_yet hcl 16 rfl ⟨15, .data⟩ (by simp) rfl h15
              exact wpOpIn_of rfl rfl (wpW_val (r_move (.tmp 20) rfl (hP.out 20 (dm_out1 h16 (by kernel_rfl)))) ⟨_, rfl, hS2, trivial, (fun h => by simp at h), rfl⟩)
            · obtain rfl := Option.some.inj ho
              have h3 := not_yet hcl 3 rfl ⟨1, .data⟩ (by simp) rfl hls
              have h8 := not_yet hcl 8 rfl ⟨3, .data⟩ (by simp) rfl h3
              have h13 := not_yet hcl 13 rfl ⟨8, .data⟩ (by simp) rfl h8
              have h14 := not_yet hcl 14 rfl ⟨13, .data⟩ (by simp) rfl h13
              have h15 := not_yet hcl 15 rfl ⟨14, .data⟩ (by simp) rfl h14
              have hS3 : w2 = wr.drew := by rw [hS2, hls, h3, h8, h13, h14, h15]; first | rfl | (cases ls 1 <;> rfl) | (cases ls 1 <;> cases ls 3 <;> rfl) | (cases ls 1 <;> cases ls 3 <;> cases ls 8 <;> rfl) | (cases ls 1 <;> cases ls 3 <;> cases ls 8 <;> cases ls 13 <;> rfl)
              subst hS3
              exact wpOpIn_of rfl rfl (wpW_val (r_bs25_0 rfl) ⟨_, rfl, (by rw [show (fun j => if 1 = j then true else ls j) 3 = false from h3, show (fun j => if 1 = j then true else ls j) 8 = false from h8, show (fun j => if 1 = j then true else ls j) 13 = false from h13, show (fun j => if 1 = j then true else ls j) 14 = false from h14, show (fun j => if 1 = j then true else ls j) 15 = false from h15, show (fun j => if 1 = j then true else ls j) 1 = true from rfl]; first | rfl | (simp [stg])), trivial, (fun h => by simp at h), rfl⟩)
            · obtain rfl := Option.some.inj ho
              exact wpOpIn_of rfl rfl (wpW_val (r_move (.tmp 18) rfl (hP.out 18 (dm_out (by kernel_rfl)))) ⟨_, rfl, hS2, trivial, (fun h => by simp at h), rfl⟩)
            · obtain rfl := Option.some.inj ho
              have h8 := not_yet hcl 8 rfl ⟨3, .data⟩ (by simp) rfl hls
              have h13 := not_yet hcl 13 rfl ⟨8, .data⟩ (by simp) rfl h8
              have h14 := not_yet hcl 14 rfl ⟨13, .data⟩ (by simp) rfl h13
              have h15 := not_yet hcl 15 rfl ⟨14, .data⟩ (by simp) rfl h14
              have hp : ls 1 = true := (hpre ⟨1, .data⟩ (by simp) rfl).1
              have hS3 : w2 = wr.drew.alloc (.cells #[] 3) := by rw [hS2, hp, hls, h8, h13, h14, h15]; first | rfl | (cases ls 1 <;> rfl) | (cases ls 1 <;> cases ls 3 <;> rfl) | (cases ls 1 <;> cases ls 3 <;> cases ls 8 <;> rfl) | (cases ls 1 <;> cases ls 3 <;> cases ls 8 <;> cases ls 13 <;> rfl)
              subst hS3
              exact wpOpIn_of rfl rfl (wpW_val (r_app (.tmp 134) (.tmp 135) 25 rfl (hpre ⟨1, .data⟩ (by simp) rfl).2 (hpre ⟨2, .data⟩ (by simp) rfl).2 HP1.out) ⟨_, rfl, (by rw [show (fun j => if 3 = j then true else ls j) 8 = false from h8, show (fun j => if 3 = j then true else ls j) 13 = false from h13, show (fun j => if 3 = j then true else ls j) 14 = false from h14, show (fun j => if 3 = j then true else ls j) 15 = false from h15, show (fun j => if 3 = j then true else ls j) 3 = true from rfl]; first | rfl | (simp [stg])), trivial, (fun h => by simp at h), rfl⟩)
            · obtain rfl := Option.some.inj ho
              exact wpOpIn_of rfl rfl (wpW_val (r_move (.tmp 11) rfl (hP.out 11 (dm_out (by kernel_rfl)))) ⟨_, rfl, hS2, trivial, (fun h => by simp at h), rfl⟩)
            · obtain rfl := Option.some.inj ho
              exact wpOpIn_of rfl rfl (wpW_val (r_move (.tmp 21) rfl (hP.out 21 (dm_out (by kernel_rfl)))) ⟨_, rfl, hS2, trivial, (fun h => by simp at h), rfl⟩)
            · obtain rfl := Option.some.inj ho
              exact wpOpIn_of rfl rfl (wpW_val (r_idx (.tmp 137) (.tmp 138) _ _ rfl (hpre ⟨4, .data⟩ (by simp) rfl).2 (hpre ⟨5, .data⟩ (by simp) rfl).2 (idx_offs Try.underlying31 size25 bs os sub.length c4 k HLT.out _)) ⟨_, rfl, hS2, trivial, (fun h => by simp at h), rfl⟩)
            · obtain rfl := Option.some.inj ho
              have h8 := not_yet hcl 8 rfl ⟨7, .data⟩ (by simp) rfl hls
              have h13 := not_yet hcl 13 rfl ⟨8, .data⟩ (by simp) rfl h8
              have h14 := not_yet hcl 14 rfl ⟨13, .data⟩ (by simp) rfl h13
              have h15 := not_yet hcl 15 rfl ⟨14, .data⟩ (by simp) rfl h14
              have hbw : Below wr.heap.size wr w2 := by rw [hS2, h13, h14, h15]; exact HSTG.out _ _ _
              exact wpOpIn_of rfl rfl (wpW_val (r_load1 25 agg25 (.tmp 139) ⟨bs, os + k, none⟩ rfl (hpre ⟨6, .data⟩ (by simp) rfl).2 (HCI.out _ hbw)) ⟨_, rfl, hS2, trivial, (fun h => by simp at h), rfl⟩)
            · obtain rfl := Option.some.inj ho
              have h13 := not_yet hcl 13 rfl ⟨8, .data⟩ (by simp) rfl hls
              have h14 := not_yet hcl 14 rfl ⟨13, .data⟩ (by simp) rfl h13
              have h15 := not_yet hcl 15 rfl ⟨14, .data⟩ (by simp) rfl h14
              have hp : ls 3 = true := (hpre ⟨3, .data⟩ (by simp) rfl).1
              have hS3 : w2 = x1 := by rw [hS2, hp, hls, h13, h14, h15]; first | rfl | (cases ls 1 <;> rfl) | (cases ls 1 <;> cases ls 3 <;> rfl) | (cases ls 1 <;> cases ls 3 <;> cases ls 8 <;> rfl) | (cases ls 1 <;> cases ls 3 <;> cases ls 8 <;> cases ls 13 <;> rfl)
              subst hS3
              exact wpOpIn_of rfl rfl (wpW_val (r_app (.tmp 136) (.tmp 140) 25 rfl (hpre ⟨3, .data⟩ (by simp) rfl).2 (hpre ⟨7, .data⟩ (by simp) rfl).2 HP2.out) ⟨_, rfl, (by rw [show (fun j => if 8 = j then true else ls j) 13 = false from h13, show (fun j => if 8 = j then true else ls j) 14 = false from h14, show (fun j => if 8 = j then true else ls j) 15 = false from h15, show (fun j => if 8 = j then true else ls j) 8 = true from rfl]; first | rfl | (simp [stg])), trivial, (fun h => by simp at h), rfl⟩)
            · obtain rfl := Option.some.inj ho
              exact wpOpIn_of rfl rfl (wpW_val (r_move (.tmp 17) rfl (hP.out 17 (dm_out (by kernel_rfl)))) ⟨_, rfl, hS2, trivial, (fun h => by simp at h), rfl⟩)
            · obtain rfl := Option.some.inj ho
              exact wpOpIn_of rfl rfl (wpW_val (r_move (.tmp 3) rfl (hP.out 3 (dm_out (by kernel_rfl)))) ⟨_, rfl, hS2, trivial, (fun h => by simp at h), rfl⟩)
            · obtain rfl := Option.some.inj ho
              exact wpOpIn_of rfl rfl (wpW_val (r_idx (.tmp 142) (.tmp 143) _ _ rfl (hpre ⟨9, .data⟩ (by simp) rfl).2 (hpre ⟨10, .data⟩ (by simp) rfl).2 (idx_offs Try.underlying31 size25 b9 o9 t.length c10 b HBN.out _)) ⟨_, rfl, hS2, trivial, (fun h => by simp at h), rfl⟩)
            · obtain rfl := Option.some.inj ho
              have h13 := not_yet hcl 13 rfl ⟨12, .data⟩ (by simp) rfl hls
              have h14 := not_yet hcl 14 rfl ⟨13, .data⟩ (by simp) rfl h13
              have h15 := not_yet hcl 15 rfl ⟨14, .data⟩ (by simp) rfl h14
              have hbw : Below wr.heap.size wr w2 := by rw [hS2, h13, h14, h15]; exact HSTG.out _ _ _
              exact wpOpIn_of rfl rfl (wpW_val (r_load1 25 agg25 (.tmp 144) ⟨b9, o9 + b, none⟩ rfl (hpre ⟨11, .data⟩ (by simp) rfl).2 (HCR.out _ hbw)) ⟨_, rfl, hS2, trivial, (fun h => by simp at h), rfl⟩)
            · obtain rfl := Option.some.inj ho
              have h14 := not_yet hcl 14 rfl ⟨13, .data⟩ (by simp) rfl hls
              have h15 := not_yet hcl 15 rfl ⟨14, .data⟩ (by simp) rfl h14
              have hp : ls 8 = true := (hpre ⟨8, .data⟩ (by simp) rfl).1
              have hS3 : w2 = x2 := by rw [hS2, hp, hls, h14, h15]; first | rfl | (cases ls 1 <;> rfl) | (cases ls 1 <;> cases ls 3 <;> rfl) | (cases ls 1 <;> cases ls 3 <;> cases ls 8 <;> rfl) | (cases ls 1 <;> cases ls 3 <;> cases ls 8 <;> cases ls 13 <;> rfl)
              subst hS3
              exact wpOpIn_of rfl rfl (wpW_val (r_app (.tmp 141) (.tmp 145) 25 rfl (hpre ⟨8, .data⟩ (by simp) rfl).2 (hpre ⟨12, .data⟩ (by simp) rfl).2 HP3.out) ⟨_, rfl, (by rw [show (fun j => if 13 = j then true else ls j) 14 = false from h14, show (fun j => if 13 = j then true else ls j) 15 = false from h15, show (fun j => if 13 = j then true else ls j) 13 = true from rfl]; first | rfl | (simp [stg])), trivial, (fun h => by simp at h), rfl⟩)
            · obtain rfl := Option.some.inj ho
              have h15 := not_yet hcl 15 rfl ⟨14, .data⟩ (by simp) rfl hls
              have hp : ls 13 = true := (hpre ⟨13, .data⟩ (by simp) rfl).1
              have hS3 : w2 = x3 := by rw [hS2, hp, hls, h15]; first | rfl | (cases ls 1 <;> rfl) | (cases ls 1 <;> cases ls 3 <;> rfl) | (cases ls 1 <;> cases ls 3 <;> cases ls 8 <;> rfl) | (cases ls 1 <;> cases ls 3 <;> cases ls 8 <;> cases ls 13 <;> rfl)
              subst hS3
              exact wpOpIn_of rfl rfl (wpW_val (r_bs31_1 (.tmp 146) A3 n3 c3 rfl (hpre ⟨13, .data⟩ (by simp) rfl).2) ⟨_, rfl, (by rw [show (fun j => if 14 = j then true else ls j) 15 = false from h15, show (fun j => if 14 = j then true else ls j) 14 = true from rfl]; first | rfl | (simp [stg])), trivial, (fun h => by simp at h), rfl⟩)
            · obtain rfl := Option.some.inj ho
              have hp : ls 14 = true := (hpre ⟨14, .data⟩ (by simp) rfl).1
              have hS3 : w2 = x3.alloc (.cells #[.slice A3 n3 c3] 25) := by rw [hS2, hp, hls]; first | rfl | (cases ls 1 <;> rfl) | (cases ls 1 <;> cases ls 3 <;> rfl) | (cases ls 1 <;> cases ls 3 <;> cases ls 8 <;> rfl) | (cases ls 1 <;> cases ls 3 <;> cases ls 8 <;> cases ls 13 <;> rfl)
              subst hS3
              exact wpOpIn_of rfl rfl (wpW_val (r_app (.tmp 133) (.tmp 147) 31 rfl (hpre ⟨0, .data⟩ (by simp) rfl).2 (hpre ⟨14, .data⟩ (by simp) rfl).2 HP4.out) ⟨_, rfl, (by rw [show (fun j => if 15 = j then true else ls j) 15 = true from rfl]; first | rfl | (simp [stg])), trivial, (fun h => by simp at h), rfl⟩)
            · obtain rfl := Option.some.inj ho
              exact wpOpIn_of rfl rfl (wpW_val (r_assign (.tmp 148) rfl (hpre ⟨15, .data⟩ (by simp) rfl).2) ⟨_, rfl, hS2, trivial, (fun h => by simp at h), rfl⟩)
          · intro ls a w2 hall hS2 hP hsl
            have h15 : ls 15 = true := hall 15 (by decide)
            rw [h15] at hS2
            obtain ⟨vs, hvs, hfr⟩ := hP.frame 202 rfl
            have hv20 : vs 20 = .slice A5 (k + 1) c5 := (hvs 20).trans (hsl 16 (by decide))
            have hS3 : w2 = x4 := hS2
            clear hsl hP hall h15 hvs HSTG HCI HCR HP1 HP2 HP3 HP4 hS2
            subst hfr
            subst hS3
            dsimp only
            simp only [List.range, List.range.loop, List.map_cons, List.map_nil, List.any_cons, List.any_nil, Nat.reduceAdd, Nat.reduceBEq, Nat.reduceLT, Option.some_beq_some, Bool.or_false, Bool.or_true, if_true, if_false, List.getD_cons_zero, List.getD_cons_succ, hv20]
            go_wp2_with fail
            go_roundw
            case rel => first | exact ⟨k + 1, by go_num, by omega, A5, c5, rfl, HP5⟩ | exact ⟨k + 1, by go_num, by omega, rfl, HP5.out⟩ | exact ⟨k + 1, by go_num, by omega, rfl, HP5⟩
            case measure => simp [intOf]; omega
        · obtain rfl : k = sub.length := by omega
          have HOT : Hid (∀ W, Below wr.heap.size wr W → Tab W (.slice Ao sub.length co) (conj ws sub)) := Lib.hid fun W h => by
            have h2 := hO.out.tab
            rw [List.take_of_length_le (by rw [length_conj]; exact Nat.le_refl _)] at h2
            exact kept_tab.below h2 h
          have HWW := Lib.hid (bl3 HWB.out HBk.out)
          obtain ⟨hT1, hT2⟩ := HTB.out _ HBk.out
          have HT1 := Lib.hid hT1
          have HT2 := Lib.hid hT2
          clear hO HOS hT1 hT2
          have hf := (HLD.out _ HWW.out).2
          go_wp2_with fail
          refine (H48.out _ _ HT1.out).mono ?_
          rintro e v12 ⟨⟨u12, rfl, ht⟩, hb⟩
          obtain ⟨A12, c12, rfl⟩ := Tab.form ht
          have HX12 := Lib.hid ht
          have HR12 := Lib.hid (bl3 HWW.out hb)
          have HY12 := Lib.hid hb
          clear hf ht hb
          go_wp2_with (first
            | ((with_reducible refine wpList_sel 158 ?_); refine wpList_val rfl (r_loadAt 40 (.tmp 10) _ _ rfl rfl (HLD.out _ HR12.out).1) ?_))
          refine (H35.out _ _ _ _ (HTR.out _ HR12.out) (HOT.out _ HY12.out) HX12.out).mono ?_
          rintro e v13 ⟨rfl, hb⟩
          have HR13 := Lib.hid (bl3 HR12.out hb)
          have HY13 := Lib.hid (bl3 HY12.out hb)
          have HX13 := Lib.hid (kept_tab.below HX12.out hb)
          clear hb
          go_wp2_with (first
            | ((with_reducible refine wpList_sel 175 ?_); refine wpList_val rfl (r_loadAt 40 (.tmp 10) _ _ rfl rfl (HLD.out _ HR13.out).1) ?_))
          refine (H32b.out _ _ _ (HTR.out _ HR13.out) (HOT.out _ HY13.out)).mono ?_
          rintro e v14 ⟨⟨u14, rfl, ht⟩, hb⟩
          obtain ⟨A14, c14, rfl⟩ := Tab.form ht
          have hal := (Below.refl v14.heap.size v14).alloc (Nat.le_refl _) (.cells #[.int .i64 d2, .int .i64 m2, .int .i64 0] 49)
          have HR14 := Lib.hid (bl3 (bl3 HR13.out hb) hal)
          have HY14 := Lib.hid (bl3 (bl3 HY13.out hb) hal)
          have HX14 := Lib.hid (kept_tab.below (kept_tab.below HX13.out hb) hal)
          have HU14 := Lib.hid (kept_tab.below ht hal)
          have HQ1 := Lib.hid (kept_tab.below HT1.out HY14.out)
          have HQ2 := Lib.hid (kept_tab.below HT2.out HY14.out)
          have hf := (HLD.out _ HR14.out).2
          clear ht hb hal
          rcases HE2.out with rfl | ⟨rfl, hus⟩
          · go_wp2_with fail
            refine (H62.out _ _ _ HQ1.out HQ2.out).mono ?_
            rintro e v15 ⟨rfl, hb⟩
            have HR15 := Lib.hid (bl3 HR14.out hb)
            clear hb
            go_wp2_with fail
            go_ret
            exact ⟨rfl, bl3 HB3.out HR15.out⟩
          · rw [hus] at HU14
            go_wp2_with fail
            refine (sameS _ _ _ _ HU14.out HX14.out).mono ?_
            rintro e v15 ⟨rfl, hb⟩
            have HR15 := Lib.hid (bl3 HR14.out hb)
            have HQ1' := Lib.hid (kept_tab.below HQ1.out hb)
            have HQ2' := Lib.hid (kept_tab.below HQ2.out hb)
            clear hb hf
            have hf := (HLD.out _ HR15.out).2
            go_wp2_with fail
            refine (H62.out _ _ _ HQ1'.out HQ2'.out).mono ?_
            rintro e v16 ⟨rfl, hb⟩
            have HR16 := Lib.hid (bl3 HR15.out hb)
            clear hb
            go_wp2_with fail
            go_ret
            exact ⟨rfl, bl3 HB3.out HR16.out⟩
end Go.Proofs
namespace Go.Proofs
open Go.RowKit Go.ChangeShapes Go.WideShapes Go.ChangeAt Go.Deep
section
variable {H : Type} {enc : TypeId × Value → H} {W : World}
theorem spot_none {a : Addr} {v : Value} (h : W.cell? (a.add 0) = some v) : a = ⟨a.block, a.off, none⟩ := by
  obtain ⟨b, o, s⟩ := a
  cases s with
  | none => rfl
  | some q =>
    exfalso
    have e : ({ block := b, off := o, spot := some q } : Addr).add 0 = { block := b, off := o, spot := some q } := by unfold Addr.add; rw [if_pos rfl]
    rw [e] at h
    unfold World.cell? at h
    simp only [Option.isSome_some, if_true] at h
    split at h <;> cases h
theorem wf_fits {x : Int} (h : (Lit.int .i64 x).wf = true) : -9223372036854775808 ≤ x ∧ x ≤ 9223372036854775807 := by
  simpa [Lit.wf, IntKind.min, IntKind.max, IntKind.signed, IntKind.bits] using h
theorem lat_of_trod {α : Type} {R : World → Value → α → Prop} {d : α} {t e : TypeId} {base fuel : Nat} {spare : Nat → Bool} {held : Bool} {v : Value} {x : DataW H × List MemPlace} (ht : Try.prog.underlying t = some (.slice e)) (hc : Try.prog.cellsOf e = 1)
    (hR : ∀ n u y, DataW.trod enc Try.prog W base spare held n e [u] = some y → ∃ z, R W u z) (h : DataW.trod enc Try.prog W base spare held fuel t [v] = some x) : ∃ xs, LAt R d W v xs := by
  rcases open_slice1 ht hc h with ⟨hv, -⟩ | ⟨a, len, cap, m, n, V, D, Pl, hv, -, hl, hm, hmm, -, hx⟩
  · obtain rfl : v = .slice none 0 0 := by simpa using hv
    exact ⟨[], [], ⟨none, 0, 0, rfl, rfl, Nat.le_refl _, by simp [maxLen], fun h => absurd h (by simp)⟩, rfl, fun i hi => absurd hi (by simp)⟩
  · obtain rfl : v = .slice (some a) len cap := by simpa using hv
    have hlm : len ≤ m := by rw [hmm]; split <;> omega
    have hz : ∀ i, i < len → ∃ z, R W (V i) z := fun i hi => hR n (V i) _ (hx i (by omega)).2
    have hf : ∃ f : Nat → α, ∀ i, i < len → R W (V i) (f i) := by
      have hz' : ∀ i, ∃ z, i < len → R W (V i) z := fun i => by
        by_cases hi : i < len
        · obtain ⟨z, hz⟩ := hz i hi; exact ⟨z, fun _ => hz⟩
        · exact ⟨d, fun h => absurd h hi⟩
      exact ⟨fun i => Classical.choose (hz' i), fun i => Classical.choose_spec (hz' i)⟩
    obtain ⟨f, hf⟩ := hf
    refine ⟨(List.range len).map f, (List.range len).map V, ⟨_, len, cap, rfl, by simp, hl, hm, fun h0 => ?_⟩, by simp, fun i hi => ?_⟩
    · have hsp := spot_none (hx 0 (by omega)).1
      refine ⟨a.block, a.off, by rw [← hsp], fun j u hu => ?_⟩
      have hj : j < len := by have := (List.getElem?_eq_some_iff.1 hu).1; simpa using this
      have := (hx j (by omega)).1
      rw [hsp, Addr.add_lit] at this
      rw [this, ← hu]
      simp [List.getElem?_range hj]
    · have hi' : i < len := by simpa using hi
      refine ⟨V i, by simp [List.getElem?_range hi'], ?_⟩
      have : ((List.range len).map f).getD i d = f i := by simp [List.getD_eq_getElem?_getD, List.getElem?_range hi']
      rw [this]
      exact hf i hi'
theorem intsT_of_trod {t : TypeId} (ht : Try.prog.underlying t = some (.slice 3)) {base fuel : Nat} {spare : Nat → Bool} {held : Bool} {v : Value} {x : DataW H × List MemPlace} (h : DataW.trod enc Try.prog W base spare held fuel t [v] = some x) : ∃ xs, IntsAt W v xs := by
  obtain ⟨xs, vs, hS, hl, he⟩ := lat_of_trod (R := fun _ u z => u = .int .i64 z ∧ (Lit.int .i64 z).wf = true) (d := 0) ht (by kernel_rfl) (fun n u y hy => by
    obtain ⟨m, hu, -, hw⟩ := DataW.trod_int Try.underlying3 hy
    exact ⟨m, by simpa using hu, hw⟩) h
  have hvs : vs = ints xs := by
    apply List.ext_getElem (by simpa [ints] using hl)
    intro i h1 h2
    obtain ⟨u, hu, rfl, -⟩ := he i (by omega)
    have hi : i < xs.length := by omega
    rw [List.getElem?_eq_getElem h1] at hu
    rw [Option.some.inj hu]
    simp [ints, List.getD_eq_getElem?_getD, hi]
  refine ⟨xs, hvs ▸ hS, fun z hz => ?_⟩
  obtain ⟨i, hi, rfl⟩ := List.getElem_of_mem hz
  obtain ⟨u, -, -, hw⟩ := he i hi
  have e : xs.getD i 0 = xs[i] := by simp [List.getD_eq_getElem?_getD, hi]
  rw [e] at hw
  exact wf_fits hw
theorem ints_of_trod {base fuel : Nat} {spare : Nat → Bool} {held : Bool} {v : Value} {x : DataW H × List MemPlace} (h : DataW.trod enc Try.prog W base spare held fuel 24 [v] = some x) : ∃ xs, IntsAt W v xs := intsT_of_trod Try.underlying24 h
end
end Go.Proofs
