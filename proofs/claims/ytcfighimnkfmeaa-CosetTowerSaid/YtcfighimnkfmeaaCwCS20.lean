/- The walk of CosetTower (printed by genS4.py); Arguments opened: lists of numbers, tables, presentations. -/
import Derived.Test.YtcfighimnkfmeaaCwCS18
import Derived.Test.YtcfighimnkfmeaaCwCS19
import Derived.Test.YtcfighimnkfmeaaCwCS1
import Derived.ProofKit
import Derived.Deep.Slices
import Derived.Deep.Strs
namespace Go.Proofs
open Go.RowKit Go.Shelf Go.Proofs.Ct Go.Maps
theorem fits_lok {g : Nat} (hg : g ≤ 1000) {w : W} (h : LOk g w) : Fits w := fun x hx => by
  have := h x hx
  omega
set_option maxRecDepth 100000 in
set_option maxHeartbeats 8000000 in
theorem tower11_any (w : World) (which : Int) (vl vk vm : Value) (l k more : List Int) (hl : IntsAt w vl l) (hk : IntsAt w vk k) (hm : IntsAt w vm more) (hw : -9223372036854775808 ≤ which ∧ which ≤ 9223372036854775807) :
    Calls Try.prog 11 #[.int .i64 which, vl, vk, vm] w fun e w' => e = .returned (.bool true) ∧ Below w.heap.size w w' := by
  have HL := Lib.hid hl
  have HK := Lib.hid hk
  have HM := Lib.hid hm
  obtain ⟨Al, cl, rfl, hl1, hl2, -⟩ := hl.open_
  obtain ⟨Ak, ck, rfl, hk1, hk2, -⟩ := hk.open_
  obtain ⟨Am, cm, rfl, hm1, hm2, -⟩ := hm.open_
  have hl3 : (l.length : Int) ≤ 9223372036854775807 := by omega
  have hk3 : (k.length : Int) ≤ 9223372036854775807 := by omega
  have hm3 : (more.length : Int) ≤ 9223372036854775807 := by omega
  have hl4 : (0 : Int) ≤ (l.length : Int) := Int.natCast_nonneg _
  have hk4 : (0 : Int) ≤ (k.length : Int) := Int.natCast_nonneg _
  have hm4 : (0 : Int) ≤ (more.length : Int) := Int.natCast_nonneg _
  have HW := Lib.hid hw
  clear hl hk hm hl1 hl2 hk1 hk2 hm1 hm2 hw
  by_cases a1 : 80 < (l.length : Int)
  · go_enter Try.func11, Try.ntmps11
    go_wp2_with fail
    refine (known9_any _).mono ?_
    rintro e v1 ⟨rfl, hb⟩
    have HB1 := Lib.hid hb
    clear hb
    go_wp2_with fail
    go_ret
    exact ⟨rfl, HB1.out⟩
  have a1' : (l.length : Int) ≤ 80 := by omega
  clear a1
  by_cases a2 : 30 < (k.length : Int)
  · go_enter Try.func11, Try.ntmps11
    go_wp2_with fail
    refine (known9_any _).mono ?_
    rintro e v1 ⟨rfl, hb⟩
    have HB1 := Lib.hid hb
    clear hb
    go_wp2_with fail
    go_ret
    exact ⟨rfl, HB1.out⟩
  have a2' : (k.length : Int) ≤ 30 := by omega
  clear a2
  by_cases a3 : 12 < (more.length : Int)
  · go_enter Try.func11, Try.ntmps11
    go_wp2_with fail
    refine (known9_any _).mono ?_
    rintro e v1 ⟨rfl, hb⟩
    have HB1 := Lib.hid hb
    clear hb
    go_wp2_with fail
    go_ret
    exact ⟨rfl, HB1.out⟩
  have a3' : (more.length : Int) ≤ 12 := by omega
  clear a3
  obtain ⟨g, hg0, hg1, hg2, hg3, hg4, hg5, T1, d1, k1, e1, T2, d2, k2, e2, hE1, hE2, he1, he2, hT⟩ := tower_all which l k more (by omega)
  have HT := Lib.hid hT
  have HSN := Lib.hid hg4.len
  have HXF : Hid (Fits (wordOf g more) ∧ (wordOf g more).length ≤ 12) := Lib.hid ⟨fits_lok (g := g) (by omega) (lok_word hg1 more), by rw [length_wordOf]; omega⟩
  have HG : Hid (∀ W, Below w.heap.size w W → Calls Try.prog 57 #[.int .i64 which, .slice Al l.length cl] W fun e w' => (∃ A c, e = .returned (.agg #[.int .i64 (g : Int), .slice A (givenP 6 which l).2.length c]) ∧ Tab w' (.slice A (givenP 6 which l).2.length c) (givenP 6 which l).2) ∧ Below W.heap.size W w') := Lib.hid fun W h => by
    rw [← hg0]
    exact given57_any W which _ l (HL.out.below h) (by omega) HW.out
  have HS : Hid (∀ W, Below w.heap.size w W → Calls Try.prog 58 #[.slice Ak k.length ck, .int .i64 (g : Int)] W fun e w' => (∃ A c, e = .returned (.slice A (lawWords g 6 k).length c) ∧ Tab w' (.slice A (lawWords g 6 k).length c) (lawWords g 6 k)) ∧ Below W.heap.size W w') := Lib.hid fun W h =>
    (words58_any W _ k g (HK.out.below h) (by omega) (by omega)).mono fun e w' (⟨⟨A, c, h1, h2⟩, h3⟩ : LawWordsPost _ W e w') => ⟨⟨A, c, h1, h2.at_⟩, h3⟩
  have HWO : Hid (∀ W, Below w.heap.size w W → Calls Try.prog 39 #[.slice Am more.length cm, .int .i64 (g : Int)] W fun e w' => (∃ A c, e = .returned (.slice A (wordOf g more).length c) ∧ OwnI W.heap.size w' (.slice A (wordOf g more).length c) (wordOf g more)) ∧ Below W.heap.size W w') := Lib.hid fun W h =>
    (wordOf39_any W _ more g (HM.out.below h) (by omega) (by omega)).mono fun e w' (⟨A, c, h1, h2, h3⟩ : WordPost _ W e w') => ⟨⟨A, c, h1, h2⟩, h3⟩
  have H32 := Lib.hid (enumS g (givenP 6 which l).2 (lawWords g 6 k) 300 T1 d1 k1 e1 hE1 (fun j => by have := hg4.short j; omega) (by have := hg4.len; omega))
  have H32b := Lib.hid (enumSB g (givenP 6 which l).2 (lawWords g 6 k ++ [wordOf g more]) 300 T2 d2 k2 e2 hE2 (fun j => by have := hg5.short j; omega) (by have := hg5.len; omega))
  clear hT hg3 hg4 hg5 hg0 hE1 hE2
  generalize (givenP 6 which l).2 = rels at *
  generalize lawWords g 6 k = sub at *
  generalize wordOf g more = X at *
  go_enter Try.func11, Try.ntmps11
  go_wp2_with fail
  refine (known9_any _).mono ?_
  rintro e v1 ⟨rfl, hb⟩
  have HB1 := Lib.hid hb
  clear hb
  go_wp2_with fail
  refine (HG.out _ HB1.out).mono ?_
  rintro e v2 ⟨⟨A2, c2, rfl, ht⟩, hb⟩
  have HB2 := Lib.hid (bl3 HB1.out hb)
  have HT2 := Lib.hid ht
  clear ht hb
  have HLD := Lib.hid (box40 v2 (.int .i64 (g : Int)) (.slice A2 rels.length c2))
  have hal := (Below.refl v2.heap.size v2).alloc (Nat.le_refl _) (.cells #[.int .i64 (g : Int), .slice A2 rels.length c2] 40)
  have HT3 := Lib.hid (kept_tab.below HT2.out hal)
  have HB3 := Lib.hid (bl3 HB2.out hal)
  have HR3 := Lib.hid (Below.refl (v2.alloc (.cells #[.int .i64 (g : Int), .slice A2 rels.length c2] 40)).heap.size (v2.alloc (.cells #[.int .i64 (g : Int), .slice A2 rels.length c2] 40)))
  clear hal
  go_wp2_with fail
  generalize hw3 : v2.alloc (.cells #[.int .i64 (g : Int), .slice A2 rels.length c2] 40) = v3 at *
  generalize v2.heap.size = B at *
  refine (HS.out _ HB3.out).mono ?_
  rintro e v4 ⟨⟨A4, c4, rfl, ht⟩, hb⟩
  have HR4 := Lib.hid (bl3 HR3.out hb)
  have HS4 := Lib.hid ht
  clear ht hb HR3 HG HS hw3
  have HTR : Hid (∀ W, Below v3.heap.size v3 W → Tab W (.slice A2 rels.length c2) rels) := Lib.hid fun W h => kept_tab.below HT3.out h
  go_wp2_with (first
    | ((with_reducible refine wpList_sel 51 ?_); refine wpList_val rfl (r_loadAt 40 (.tmp 10) _ _ rfl rfl (HLD.out _ HR4.out).1) ?_))
  refine (H32.out _ _ _ (HTR.out _ HR4.out) HS4.out).mono ?_
  rintro e v6 ⟨⟨u6, rfl, ht⟩, hb⟩
  obtain ⟨A6, c6, rfl⟩ := Tab.form ht
  have hal := (Below.refl v6.heap.size v6).alloc (Nat.le_refl _) (.cells #[.int .i64 d1, .int .i64 k1, .int .i64 0] 49)
  have HR6 := Lib.hid (bl3 (bl3 HR4.out hb) hal)
  have HS6 := Lib.hid (kept_tab.below (kept_tab.below HS4.out hb) hal)
  have HT6 := Lib.hid (kept_tab.below ht hal)
  clear hal hb ht H32 HS4 HR4
  go_wp2_with fail
  generalize hw6 : v6.alloc (.cells #[.int .i64 d1, .int .i64 k1, .int .i64 0] 49) = W6 at *
  generalize v6.heap.size = B6 at *
  clear hw6
  have HWM : Hid (∀ W, Below W6.heap.size W6 W → Below w.heap.size w W) := Lib.hid fun W h => bl3 HB3.out (bl3 HR6.out h)
  have HWR : Hid (∀ W, Below W6.heap.size W6 W → Below v3.heap.size v3 W) := Lib.hid fun W h => bl3 HR6.out h
  have HSUB : Hid (∀ (O : Nat → Prop) W, Below W6.heap.size W6 W → TabS (Fb W6.heap.size O) W (.slice A4 sub.length c4) sub) := Lib.hid fun O W h => ((TabS.of_tab HS6.out).keep fun x hx => h.block x hx).mono fun x hx => .inl hx
  refine (wpIn_wide (n := 3)).1 ?_
  refine wpIn_region_own (by kernel_rfl) 19 rfl (fun i => ([some 58, some 59, some 60, some 61, some 62, some 63, some 64, some 65, some 66, some 67, some 68, some 57, some 69, some 70, some 71, some 16, some 15, none, some 17] : List (Option Nat)).getD i none) (lex_of (by kernel_rfl)) W6.heap.size (fun i => ([1, 3, 15] : List Nat).contains i) (fun i j => (([[], [], [], [1, 2], [], [], [5], [4, 6], [7], [3, 8], [0, 9], [10], [11], [11], [11], [], [12], [15, 13], [14]] : List (List Nat)).getD i []).contains j) (fun W => Below W6.heap.size W6 W) (fun j v O W => (([.eq (.agg #[.int .i64 (g : Int), .slice A2 rels.length c2]), .ownT [], .eq (.slice A4 sub.length c4), .ownT sub, .eq (.slice Am more.length cm), .eq (.pointer (some ⟨B, 0, none⟩)), .eq (.int .i64 (g : Int)), .ints X, .tab [X], .tab (sub ++ [X]), .enum T2 d2 k2 e2, .enum T2 d2 k2 e2, .rd T2, .eq (.agg #[.int .i64 d2, .int .i64 k2, .int .i64 0]), .eq (.int .i64 e2), .box 49 #[.int .i64 0, .int .i64 0, .int .i64 0], .rd T2, .any, .eq (.int .i64 e2)] : List FP).getD j FP.any).holds W6.heap.size v O W) (by kernel_rfl) (by kernel_rfl) (dm_inj (by kernel_rfl)) (fun j v O W W' _ _ h hs h1 h2 => FP.keep rfl h1 h2 hs h) (dm_lt (n := 208) (by kernel_rfl)) (Nat.le_refl _) (Below.refl _ _).drew ?_ ?_
  · intro O ls q o a w2 hq ho hS hbw hls hP hpre hdj
    have hcases : q = 0 ∨ q = 1 ∨ q = 2 ∨ q = 3 ∨ q = 4 ∨ q = 5 ∨ q = 6 ∨ q = 7 ∨ q = 8 ∨ q = 9 ∨ q = 10 ∨ q = 11 ∨ q = 12 ∨ q = 13 ∨ q = 14 ∨ q = 15 ∨ q = 16 ∨ q = 17 ∨ q = 18 := by
      have : q < 19 := hq
      omega
    rcases hcases with rfl | rfl | rfl | rfl | rfl | rfl | rfl | rfl | rfl | rfl | rfl | rfl | rfl | rfl | rfl | rfl | rfl | rfl | rfl
    · obtain rfl := Option.some.inj ho
      exact wpOpIn_of rfl rfl (wpW_val (r_loadAt 40 (.tmp 10) _ _ rfl (hP.out 10 (dm_out (by kernel_rfl))) (HLD.out _ (HWR.out _ hS)).1) ⟨_, _, rfl, hS, (fun h => by simp at h), Step.same, rfl⟩)
    · obtain rfl := Option.some.inj ho
      have hal : Below w2.heap.size w2 (w2.alloc (.cells #[] 25)) := (Below.refl _ _).alloc (Nat.le_refl _) _
      exact wpOpIn_of rfl rfl (wpW_val (r_bs31_0 rfl) ⟨_, _, rfl, hS.trans (hal.mono hS.size), (fun h => by simp at h), Step.below hal, ownT_start hbw⟩)
    · obtain rfl := Option.some.inj ho
      exact wpOpIn_of rfl rfl (wpW_val (r_move (.tmp 11) rfl (hP.out 11 (dm_out (by kernel_rfl)))) ⟨_, _, rfl, hS, (fun h => by simp at h), Step.same, rfl⟩)
    · obtain rfl := Option.some.inj ho
      obtain ⟨A', c', w', hr, hg, hb, hf⟩ := FP.app_rows (ty := 31) Try.underlying31 (hpre 1 (by decide) rfl).1 (HSUB.out (fun _ => False) w2 hS) (fun _ h => h.elim) (by simp) (by have := HSN.out; omega) hbw
      rw [List.nil_append] at hr hf
      exact wpOpIn_of rfl rfl (wpW_val (r_app (.tmp 59) (.tmp 60) 31 rfl rfl (hpre 2 (by decide) rfl).1 hr) ⟨_, _, rfl, grown_below rfl hS hg (fun r hr => (hb r hr).2), (fun h => by simp at h), Step.grown hg (fun r hr => ⟨1, by decide, rfl, rfl, (hb r hr).1⟩), hf _ (fun q h1 h2 => Mx.of (j := 1) (by decide) rfl (fun _ => rfl) h1 (Nat.lt_of_lt_of_le h2 hg.size)) (fun _ h => h.elim) (fun q h1 h2 => Mx.fresh h1 h2)⟩)
    · obtain rfl := Option.some.inj ho
      exact wpOpIn_of rfl rfl (wpW_val (r_move (.tmp 3) rfl (hP.out 3 (dm_out (by kernel_rfl)))) ⟨_, _, rfl, hS, (fun h => by simp at h), Step.same, rfl⟩)
    · obtain rfl := Option.some.inj ho
      exact wpOpIn_of rfl rfl (wpW_val (r_fld (.tmp 10) _ rfl (hP.out 10 (dm_out (by kernel_rfl))) (by kernel_rfl)) ⟨_, _, rfl, hS, (fun h => by simp at h), Step.same, rfl⟩)
    · obtain rfl := Option.some.inj ho
      exact wpOpIn_of rfl rfl (wpW_val (r_load1 3 agg3 (.tmp 63) ⟨B, 0, none⟩ rfl (hpre 5 (by decide) rfl).1 (HLD.out _ (HWR.out _ hS)).2) ⟨_, _, rfl, hS, (fun h => by simp at h), Step.same, rfl⟩)
    · obtain rfl := Option.some.inj ho
      exact wpOpIn_of rfl rfl (wpW_call (R := fun v w' => (∃ A c, v = .slice A X.length c ∧ OwnI w2.heap.size w' (.slice A X.length c) X) ∧ Below w2.heap.size w2 w') (r_call2 (.tmp 62) (.tmp 64) _ _ _ rfl (hpre 4 (by decide) rfl).1 (hpre 6 (by decide) rfl).1 call39) ((HWO.out _ (HWM.out _ hS)).mono fun e w' ⟨⟨A, c, he, ho⟩, hb⟩ => ⟨_, he, ⟨A, c, rfl, ho⟩, hb⟩)
        (fun v w'' ⟨⟨A, c, hv, ho⟩, hb⟩ => ⟨v, _, rfl, hS.trans (hb.mono hS.size), (fun h => by simp at h), Step.below hb, ints_new_own hv ho HXF.out.1⟩))
    · obtain rfl := Option.some.inj ho
      have k7 := hpre 7 (by decide) rfl
      obtain ⟨A, c, e7, i7⟩ := k7.1
      have hal : Below w2.heap.size w2 (w2.alloc (.cells #[.slice A X.length c] 25)) := (Below.refl _ _).alloc (Nat.le_refl _) _
      exact wpOpIn_of rfl rfl (wpW_val (r_bs31_1 (.tmp 65) A X.length c rfl e7) ⟨_, _, rfl, hS.trans (hal.mono hS.size), (fun h => by simp at h), Step.below hal, _, _, rfl, tab_one_new i7 (fun q hq => ⟨hq.imp id fun h => Mx.of (j := 7) (by decide) rfl (by decide) h (Nat.lt_of_lt_of_le (k7.2 q h).2 hal.size), hq.elim (fun h => Nat.lt_of_lt_of_le h hbw) fun h => (k7.2 q h).2⟩) (.inr (Mx.fresh (Nat.le_refl _) (by simp)))⟩)
    · obtain rfl := Option.some.inj ho
      have k8 := hpre 8 (by decide) rfl
      obtain ⟨A, c, e8, t8⟩ := k8.1
      obtain ⟨A', c', w', hr, hg, hb, hf⟩ := FP.app_rows (ty := 31) Try.underlying31 (hpre 3 (by decide) rfl).1 t8 (fun q hq => ⟨(k8.2 q hq).2, fun h => hdj 3 8 q (by decide) (by decide) rfl rfl (by decide) rfl h hq⟩) (by have := HSN.out; omega) (by simp) hbw
      exact wpOpIn_of rfl rfl (wpW_val (r_app (.tmp 61) (.tmp 66) 31 rfl rfl e8 hr) ⟨_, _, rfl, grown_below rfl hS hg (fun r hr => (hb r hr).2), (fun h => by simp at h), Step.grown hg (fun r hr => ⟨3, by decide, rfl, rfl, (hb r hr).1⟩), FP.tab_own (hf _ (fun q h1 h2 => Mx.of (j := 3) (by decide) rfl (by decide) h1 (Nat.lt_of_lt_of_le h2 hg.size)) (fun q h => Mx.of (j := 8) (by decide) rfl (by decide) h (Nat.lt_of_lt_of_le (k8.2 q h).2 hg.size)) (fun q h1 h2 => Mx.fresh h1 h2))⟩)
    · obtain rfl := Option.some.inj ho
      have k9 := hpre 9 (by decide) rfl
      obtain ⟨A, c, e9, t9⟩ := k9.1
      exact wpOpIn_of rfl rfl (wpW_call (R := fun v w' => (∃ A m, v = .tuple #[.slice A T2.length m, .agg #[.int .i64 d2, .int .i64 k2, .int .i64 0], .int .i64 e2] ∧ TabB w2.heap.size w' (.slice A T2.length m) T2) ∧ Below w2.heap.size w2 w') (r_call3 (.tmp 58) (.tmp 67) (.const (.int .i64 300)) _ _ _ _ rfl (hpre 0 (by decide) rfl).1 e9 rfl call32) ((H32b.out _ _ _ (HTR.out _ (HWR.out _ hS)) t9.tab).mono fun e w' ⟨⟨A, m, he, ht⟩, hb⟩ => ⟨_, he, ⟨A, m, rfl, ht⟩, hb⟩)
        (fun v w'' ⟨⟨A, m, hv, ht⟩, hb⟩ => ⟨v, _, rfl, hS.trans (hb.mono hS.size), (fun h => by simp at h), Step.below hb, A, m, hv, (RdT.of_tabB ht).mono fun q hq => .inr (Mx.fresh hq.1 hq.2)⟩))
    · obtain rfl := Option.some.inj ho
      have k := hpre 10 (by decide) rfl
      exact wpOpIn_of rfl rfl (wpW_val (r_move (.tmp 68) rfl rfl) ⟨_, _, rfl, hS, (fun h => by simp at h), Step.same, FP.mono (fun q hq => Mx.of (j := 10) (by decide) rfl (by decide) hq (k.2 q hq).2) k.1⟩)
    · obtain rfl := Option.some.inj ho
      have k := hpre 11 (by decide) rfl
      obtain ⟨A, m, e11, t11⟩ := k.1
      exact wpOpIn_of rfl rfl (wpW_val (r_extract 0 (.tmp 57) _ rfl e11 rfl) ⟨_, _, rfl, hS, (fun h => by simp at h), Step.same, A, m, rfl, t11.mono fun q hq => hq.imp id fun h => Mx.of (j := 11) (by decide) rfl (by decide) h (k.2 q h).2⟩)
    · obtain rfl := Option.some.inj ho
      obtain ⟨A, m, e11, -⟩ := (hpre 11 (by decide) rfl).1
      exact wpOpIn_of rfl rfl (wpW_val (r_extract 1 (.tmp 57) _ rfl e11 rfl) ⟨_, _, rfl, hS, (fun h => by simp at h), Step.same, rfl⟩)
    · obtain rfl := Option.some.inj ho
      obtain ⟨A, m, e11, -⟩ := (hpre 11 (by decide) rfl).1
      exact wpOpIn_of rfl rfl (wpW_val (r_extract 2 (.tmp 57) _ rfl e11 rfl) ⟨_, _, rfl, hS, (fun h => by simp at h), Step.same, rfl⟩)
    · obtain rfl := Option.some.inj ho
      have hal : Below w2.heap.size w2 (w2.alloc (.cells #[.int .i64 0, .int .i64 0, .int .i64 0] 49)) := (Below.refl _ _).alloc (Nat.le_refl _) _
      exact wpOpIn_of rfl rfl (wpW_val (r_alloc49 rfl) ⟨_, _, rfl, hS.trans (hal.mono hS.size), (fun h => by simp at h), Step.below hal, w2.heap.size, rfl, Mx.fresh (Nat.le_refl _) (by simp), heap_alloc_new w2 _⟩)
    · obtain rfl := Option.some.inj ho
      have k := hpre 12 (by decide) rfl
      exact wpOpIn_of rfl rfl (wpW_val (r_assign (.tmp 69) rfl rfl) ⟨_, _, rfl, hS, (fun h => by simp at h), Step.same, FP.mono (fun q hq => Mx.of (j := 12) (by decide) rfl (by decide) hq (k.2 q hq).2) k.1⟩)
    · obtain rfl := Option.some.inj ho
      have k15 := hpre 15 (by decide) rfl
      obtain ⟨q, e15, o15, h15⟩ := k15.1
      exact wpOpIn_of rfl rfl (wpW_skip (r_store49 (.tmp 16) (.tmp 70) rfl q _ d2 k2 0 e15 (hpre 13 (by decide) rfl).1 h15 rfl) ⟨undef, _, rfl, below_setRow hS (k15.2 q o15).1 _, fun _ => rfl, step_setRow (j := 15) (by decide) rfl rfl o15 _, trivial⟩)
    · obtain rfl := Option.some.inj ho
      exact wpOpIn_of rfl rfl (wpW_val (r_assign (.tmp 71) rfl (hpre 14 (by decide) rfl).1) ⟨_, _, rfl, hS, (fun h => by simp at h), Step.same, rfl⟩)
  · intro O ls a w2 hall hS hbw hP hsl
    obtain ⟨vs, hvs, hfr⟩ := hP.frame 208 rfl
    obtain ⟨A15, c15, e15, r15⟩ := (hsl 16 (by decide) (.inl rfl)).1
    have e17 : a.tmps.getD 17 undef = .int .i64 e2 := (hsl 18 (by decide) (.inl rfl)).1
    have e15' : a.tmps.getD 15 undef = .slice A15 T2.length c15 := e15
    rw [← hvs] at e15' e17
    have HU7 := Lib.hid r15.tab
    have HR7 := Lib.hid hS
    clear hsl hP hall hS hvs r15 e15 H32b HWO hbw
    subst hfr
    dsimp only
    simp only [List.range, List.range.loop, List.map_cons, List.map_nil, List.any_cons, List.any_nil, Nat.reduceBEq, Option.some_beq_some, Option.none_beq_some, Bool.or_false, Bool.false_or, Bool.false_eq_true, if_true, if_false, List.getD_cons_zero, List.getD_cons_succ, e15', e17]
    have HR8 := Lib.hid (HWR.out _ HR7.out)
    have HT8 := Lib.hid (kept_tab.below HT6.out HR7.out)
    have hf := (HLD.out _ HR8.out).2
    clear HSUB HSN HXF HM HL HK HS6 HT6
    rcases he1 with rfl | rfl
    · rcases he2 with rfl | rfl
      · go_wp2_with fail
        go_ret
        exact ⟨rfl, HWM.out _ HR7.out⟩
      · go_wp2_with fail
        go_ret
        exact ⟨rfl, HWM.out _ HR7.out⟩
    rcases he2 with rfl | rfl
    · go_wp2_with fail
      go_ret
      exact ⟨rfl, HWM.out _ HR7.out⟩
    obtain ⟨hTT, hn1, hn2⟩ := HT.out rfl rfl
    have ht1 : 1 ≤ (T1.length : Int) := by have := hTT.ft.good.n1; omega
    have ht2 : 1 ≤ (T2.length : Int) := by have := hTT.fu.good.n1; omega
    have ht3 : (T1.length : Int) ≤ 300 := by omega
    have ht4 : (T2.length : Int) ≤ 300 := by omega
    have hdv := hTT.dvd
    have hz2 : ((T2.length : Int) == 0) = false := by rw [beq_eq_false_iff_ne]; omega
    have hdv2 : ((T1.length : Int) % (T2.length : Int) != 0) = false := by rw [hdv]; rfl
    have HGD := Lib.hid hTT.ft.good
    have HN := Lib.hid (show 1 ≤ T1.length ∧ T1.length ≤ 300 by omega)
    obtain ⟨φ, hφ⟩ := hTT.tr
    have H50 : Hid (∀ W, Below W6.heap.size W6 W → ∀ A c, Tab W (.slice A T1.length c) T1 → Calls Try.prog 50 #[.int .i64 (g : Int), .slice A T1.length c] W fun e w' => (∃ A c, e = .returned (.tuple #[.slice A T1.length c, .int .i64 0]) ∧ Tab w' (.slice A T1.length c) (reps T1)) ∧ Below W.heap.size W w') := Lib.hid fun W _ A c h =>
      (repsK g T1 (reps T1) 0 hTT.reps W _ h).mono fun e w' ⟨⟨u, h1, h2⟩, h3⟩ => by
        obtain ⟨A', c', rfl⟩ := Tab.form h2
        rw [hTT.rl] at h1 h2
        exact ⟨⟨A', c', h1, h2⟩, h3⟩
    have H40 : Hid (∀ i, i < T1.length → ∀ W v u, Tab W v T2 → IntsAt W u ((reps T1).getD i []) → Calls Try.prog 40 #[.int .i64 (g : Int), v, .int .i64 0, u] W fun e w' => e = .returned (.tuple #[.int .i64 (φ i : Int), .bool true]) ∧ Below W.heap.size W w') := Lib.hid fun i hi W v u h1 h2 => traceK g T2 0 _ _ _ (hφ i hi).2.1 W v u h1 h2
    have H40c : Hid (∀ i c, i < T1.length → c < 2 * g → ∃ s : Nat, T1.at i c = (s : Int) ∧ s < T1.length ∧ ∀ W v u, Tab W v T2 → IntsAt W u [letter c] → Calls Try.prog 40 #[.int .i64 (g : Int), v, .int .i64 (φ i : Int), u] W fun e w' => e = .returned (.tuple #[.int .i64 (φ s : Int), .bool true]) ∧ Below W.heap.size W w') := Lib.hid fun i c hi hc => by
      obtain ⟨s, h1, h2, h3⟩ := (hφ i hi).2.2 c hc
      exact ⟨s, h1, h2, fun W v u h4 h5 => traceK g T2 _ _ _ _ h3 W v u h4 h5⟩
    have HPH : Hid (∀ i, i < T1.length → φ i ≤ 300) := Lib.hid fun i hi => by have := (hφ i hi).1; omega
    have HRL := Lib.hid hTT.rl
    clear hTT hφ HT hn1 hn2
    generalize reps T1 = R at *
    go_wp2_with fail
    refine (H50.out _ HR7.out _ _ HT8.out).mono ?_
    rintro e w9 ⟨⟨A9, c9, rfl, ht⟩, hb⟩
    have HR9 := Lib.hid (bl3 HR8.out hb)
    have HM9 := Lib.hid (HWM.out _ (bl3 HR7.out hb))
    have HT9 := Lib.hid (kept_tab.below HT8.out hb)
    have HU9 := Lib.hid (kept_tab.below HU7.out hb)
    have HV9 := Lib.hid ht
    clear hb ht H50 HR7 HR8 HT8 HU7 hf HWM HWR
    have HBX : Hid (∀ W, Below w9.heap.size w9 W → W.cell? ⟨B, 0, none⟩ = some (.int .i64 (g : Int))) := Lib.hid fun W h => (HLD.out _ (bl3 HR9.out h)).2
    have HU : Hid (∀ W, Below w9.heap.size w9 W → Tab W (.slice A15 T2.length c15) T2) := Lib.hid fun W h => kept_tab.below HU9.out h
    obtain ⟨A6', c6', e6, -, -, htc⟩ := LAt.open_ HT9.out
    obtain ⟨b6, o6, rfl, hrow⟩ := (by obtain ⟨rfl, -, rfl⟩ := Value.slice.inj e6; exact htc (by have := HN.out; omega) : ∃ b off, A6 = some ⟨b, off, none⟩ ∧ ∀ k, k < T1.length → ∃ u, w9.cell? ⟨b, off + k, none⟩ = some u ∧ IntsAt w9 u (T1.getD k []))
    obtain ⟨A9', c9', e9, -, -, hvc⟩ := LAt.open_ HV9.out
    rw [HRL.out] at e9 hvc
    obtain ⟨b9, o9, rfl, hrr⟩ := (by obtain ⟨rfl, -, rfl⟩ := Value.slice.inj e9; exact hvc (by have := HN.out; omega) : ∃ b off, A9 = some ⟨b, off, none⟩ ∧ ∀ k, k < T1.length → ∃ u, w9.cell? ⟨b, off + k, none⟩ = some u ∧ IntsAt w9 u (R.getD k []))
    have HROW := Lib.hid hrow
    have HRR := Lib.hid hrr
    clear hrow hrr htc hvc e6 e9 HT9 HV9 HU9
    have hf := HBX.out _ (Below.refl _ _)
    have hg1' : 1 ≤ (g : Int) := by omega
    have hg2' : (g : Int) ≤ 3 := by omega
    go_wp2_with fail
    clear hf
    go_loopw [19] (fun i wr => ∃ r : Nat, i = .int .i64 (r : Int) ∧ r ≤ T1.length ∧ Hid (Below w9.heap.size w9 wr)) (fun i _ => T1.length - (intOf i).toNat)
    case atStart => exact ⟨0, rfl, by omega, Lib.hid (Below.refl _ _)⟩
    case round =>
      obtain ⟨r, rfl, hr, HBr⟩ := hrel
      have hr0 : (0 : Int) ≤ (r : Int) := Int.natCast_nonneg _
      by_cases hlt : r < T1.length
      · have hlt' : (r : Int) < (T1.length : Int) := by omega
        obtain ⟨u9, hu9, hi9⟩ := HRR.out r hlt
        obtain ⟨Au, cu, rfl, -, -, -⟩ := hi9.open_
        have HCR : Hid (∀ W, Below wr.heap.size wr W → W.cell? ⟨b9, o9 + r, none⟩ = some (.slice Au (R.getD r []).length cu) ∧ IntsAt W (.slice Au (R.getD r []).length cu) (R.getD r [])) := Lib.hid fun W h => by
          have h2 := bl3 HBr.out h
          exact ⟨(h2.cell (p := ⟨b9, o9 + r, none⟩) (World.block_lt_of_cell? w9 _ hu9)).trans hu9, hi9.below h2⟩
        have H40r := Lib.hid (H40.out r hlt)
        have HPr := Lib.hid (HPH.out r hlt)
        have HBXr : Hid (∀ W, Below wr.heap.size wr W → W.cell? ⟨B, 0, none⟩ = some (.int .i64 (g : Int))) := Lib.hid fun W h => HBX.out _ (bl3 HBr.out h)
        have HUr : Hid (∀ W, Below wr.heap.size wr W → Tab W (.slice A15 T2.length c15) T2) := Lib.hid fun W h => HU.out _ (bl3 HBr.out h)
        clear hu9 hi9
        generalize R.getD r [] = ws at *
        go_wp2_with fail
        refine (wpIn_wide (n := 3)).1 ?_
        refine wpIn_region_own (by kernel_rfl) 13 rfl (fun i => ([some 129, some 130, some 131, some 132, some 133, some 134, some 135, some 136, some 128, some 137, some 138, some 20, some 21] : List (Option Nat)).getD i none) (lex_of (by kernel_rfl)) wr.heap.size (fun i => ([] : List Nat).contains i) (fun i j => (([[], [0], [], [], [], [3, 4], [5], [1, 2, 6], [7], [8], [8], [9], [10]] : List (List Nat)).getD i []).contains j) (fun W => Below wr.heap.size wr W) (fun j v O W => (([.eq (.pointer (some ⟨B, 0, none⟩)), .eq (.int .i64 (g : Int)), .eq (.slice A15 T2.length c15), .eq (.slice (some ⟨b9, o9, none⟩) T1.length c9), .eq (.int .i64 (r : Int)), .eq (.pointer (some ⟨b9, o9 + r, none⟩)), .eq (.slice Au ws.length cu), .eq (.tuple #[.int .i64 (φ r : Int), .bool true]), .eq (.tuple #[.int .i64 (φ r : Int), .bool true]), .eq (.int .i64 (φ r : Int)), .eq (.bool true), .eq (.int .i64 (φ r : Int)), .eq (.bool true)] : List FP).getD j FP.any).holds wr.heap.size v O W) (by kernel_rfl) (by kernel_rfl) (dm_inj (by kernel_rfl)) (fun j v O W W' _ _ h hs h1 h2 => FP.keep rfl h1 h2 hs h) (dm_lt (n := 208) (by kernel_rfl)) (Nat.le_refl _) (Below.refl _ _).drew ?_ ?_
        · intro O ls q o a w2 hq ho hS hbw hls hP hpre hdj
          have hcases : q = 0 ∨ q = 1 ∨ q = 2 ∨ q = 3 ∨ q = 4 ∨ q = 5 ∨ q = 6 ∨ q = 7 ∨ q = 8 ∨ q = 9 ∨ q = 10 ∨ q = 11 ∨ q = 12 := by
            have : q < 13 := hq
            omega
          rcases hcases with rfl | rfl | rfl | rfl | rfl | rfl | rfl | rfl | rfl | rfl | rfl | rfl | rfl
          · obtain rfl := Option.some.inj ho
            exact wpOpIn_of rfl rfl (wpW_val (r_fld (.tmp 10) _ rfl (hP.out 10 (dm_out (by kernel_rfl))) (by kernel_rfl)) ⟨_, _, rfl, hS, (fun h => by simp at h), Step.same, rfl⟩)
          · obtain rfl := Option.some.inj ho
            exact wpOpIn_of rfl rfl (wpW_val (r_load1 3 agg3 (.tmp 129) ⟨B, 0, none⟩ rfl (hpre 0 (by decide) rfl).1 (HBXr.out _ hS)) ⟨_, _, rfl, hS, (fun h => by simp at h), Step.same, rfl⟩)
          · obtain rfl := Option.some.inj ho
            exact wpOpIn_of rfl rfl (wpW_val (r_move (.tmp 15) rfl (hP.out 15 (dm_out (by kernel_rfl)))) ⟨_, _, rfl, hS, (fun h => by simp at h), Step.same, rfl⟩)
          · obtain rfl := Option.some.inj ho
            exact wpOpIn_of rfl rfl (wpW_val (r_move (.tmp 18) rfl (hP.out 18 (dm_out (by kernel_rfl)))) ⟨_, _, rfl, hS, (fun h => by simp at h), Step.same, rfl⟩)
          · obtain rfl := Option.some.inj ho
            exact wpOpIn_of rfl rfl (wpW_val (r_move (.tmp 19) rfl (hP.out 19 (dm_out (by kernel_rfl)))) ⟨_, _, rfl, hS, (fun h => by simp at h), Step.same, rfl⟩)
          · obtain rfl := Option.some.inj ho
            exact wpOpIn_of rfl rfl (wpW_val (r_idx (.tmp 132) (.tmp 133) _ _ rfl (hpre 3 (by decide) rfl).1 (hpre 4 (by decide) rfl).1 (idx_offs Try.underlying31 size25 b9 o9 T1.length c9 r hlt _)) ⟨_, _, rfl, hS, (fun h => by simp at h), Step.same, rfl⟩)
          · obtain rfl := Option.some.inj ho
            exact wpOpIn_of rfl rfl (wpW_val (r_load1 25 agg25 (.tmp 134) ⟨b9, o9 + r, none⟩ rfl (hpre 5 (by decide) rfl).1 (HCR.out _ hS).1) ⟨_, _, rfl, hS, (fun h => by simp at h), Step.same, rfl⟩)
          · obtain rfl := Option.some.inj ho
            exact wpOpIn_of rfl rfl (wpW_call (R := fun v w' => v = .tuple #[.int .i64 (φ r : Int), .bool true] ∧ Below w2.heap.size w2 w') (r_call4 (.tmp 130) (.tmp 131) (.const (.int .i64 0)) (.tmp 135) _ _ _ _ _ rfl (hpre 1 (by decide) rfl).1 (hpre 2 (by decide) rfl).1 rfl (hpre 6 (by decide) rfl).1 call40) ((H40r.out w2 _ _ (HUr.out _ hS) (HCR.out _ hS).2).mono fun e w' ⟨he, hb⟩ => ⟨_, he, rfl, hb⟩)
              (fun v w'' ⟨hv, hb⟩ => ⟨v, _, rfl, hS.trans (hb.mono hS.size), (fun h => by simp at h), Step.below hb, hv⟩))
          · obtain rfl := Option.some.inj ho
            exact wpOpIn_of rfl rfl (wpW_val (r_move (.tmp 136) rfl (hpre 7 (by decide) rfl).1) ⟨_, _, rfl, hS, (fun h => by simp at h), Step.same, rfl⟩)
          · obtain rfl := Option.some.inj ho
            exact wpOpIn_of rfl rfl (wpW_val (r_extract 0 (.tmp 128) _ rfl (hpre 8 (by decide) rfl).1 rfl) ⟨_, _, rfl, hS, (fun h => by simp at h), Step.same, rfl⟩)
          · obtain rfl := Option.some.inj ho
            exact wpOpIn_of rfl rfl (wpW_val (r_extract 1 (.tmp 128) _ rfl (hpre 8 (by decide) rfl).1 rfl) ⟨_, _, rfl, hS, (fun h => by simp at h), Step.same, rfl⟩)
          · obtain rfl := Option.some.inj ho
            exact wpOpIn_of rfl rfl (wpW_val (r_assign (.tmp 137) rfl (hpre 9 (by decide) rfl).1) ⟨_, _, rfl, hS, (fun h => by simp at h), Step.same, rfl⟩)
          · obtain rfl := Option.some.inj ho
            exact wpOpIn_of rfl rfl (wpW_val (r_assign (.tmp 138) rfl (hpre 10 (by decide) rfl).1) ⟨_, _, rfl, hS, (fun h => by simp at h), Step.same, rfl⟩)
        · intro O ls a w2 hall hS hbw hP hsl
          obtain ⟨vs, hvs, hfr⟩ := hP.frame 208 rfl
          have e20 : a.tmps.getD 20 undef = .int .i64 (φ r : Int) := (hsl 11 (by decide) (.inl rfl)).1
          rw [← hvs] at e20
          have e21 : a.tmps.getD 21 undef = .bool true := (hsl 12 (by decide) (.inl rfl)).1
          rw [← hvs] at e21
          have HRN := Lib.hid hS
          clear hsl hP hall hS hvs hbw
          subst hfr
          dsimp only
          simp only [List.range, List.range.loop, List.map_cons, List.map_nil, List.any_cons, List.any_nil, Nat.reduceBEq, Option.some_beq_some, Bool.or_false, Bool.false_or, Bool.false_eq_true, if_true, if_false, List.getD_cons_zero, List.getD_cons_succ, e20, e21]
          have HB8 := Lib.hid (bl3 HBr.out HRN.out)
          obtain ⟨u6, hu6, hi6⟩ := HROW.out r hlt
          obtain ⟨A7, c7, rfl, -, -, hcc⟩ := hi6.open_
          have hlen : (T1.getD r []).length = 2 * g := HGD.out.len r hlt
          have HCC : Hid (∀ k, k < 2 * g → ∃ b off, A7 = some ⟨b, off, none⟩ ∧ ∀ k, k < 2 * g → w9.cell? ⟨b, off + k, none⟩ = some (.int .i64 (T1.at r k))) := Lib.hid fun k hk => by
            obtain ⟨b, off, h1, h2⟩ := hcc (by rw [hlen]; omega)
            exact ⟨b, off, h1, fun k hk => h2 k (by rw [hlen]; exact hk)⟩
          obtain ⟨b7, o7, rfl, hcell⟩ := HCC.out 0 (by omega)
          have HROWr : Hid (∀ W, Below w9.heap.size w9 W → W.cell? ⟨b6, o6 + r, none⟩ = some (.slice (some ⟨b7, o7, none⟩) (2 * g) c7)) := Lib.hid fun W h => by
            rw [hlen] at hu6
            exact (h.cell (p := ⟨b6, o6 + r, none⟩) (World.block_lt_of_cell? w9 _ hu6)).trans hu6
          have HCELL : Hid (∀ W, Below w9.heap.size w9 W → ∀ c, c < 2 * g → W.cell? ⟨b7, o7 + c, none⟩ = some (.int .i64 (T1.at r c))) := Lib.hid fun W h c hc => (h.cell (p := ⟨b7, o7 + c, none⟩) (World.block_lt_of_cell? w9 _ (hcell c hc))).trans (hcell c hc)
          have H40d := Lib.hid (fun c hc => H40c.out r c hlt hc)
          obtain ⟨m, hm⟩ : ∃ m, m = 2 * g := ⟨_, rfl⟩
          have hmi : ((m : Nat) : Int) = 2 * (g : Int) := by omega
          have hm0 : (0 : Int) ≤ (m : Int) := Int.natCast_nonneg _
          have hm6 : (m : Int) ≤ 6 := by omega
          have hd : ((m : Int) != 2 * (g : Int)) = false := by simp [hmi]
          have HMG := Lib.hid hm
          rw [← hm] at HROWr HCELL H40d
          clear hu6 hi6 hcc hcell HCC hlen hm HCR H40r HBXr HUr
          have HMI := Lib.hid hmi
          clear hmi
          have x1 := HROWr.out _ HB8.out
          have x2 := HBX.out _ HB8.out
          go_wp2_with fail
          go_quiet (fail)
          go_wp2_with fail
          have HPr' := HPr.out
          clear x1 x2
          go_loopw [22] (fun i wc => ∃ c : Nat, i = .int .i64 (c : Int) ∧ c ≤ m ∧ Hid (Below w9.heap.size w9 wc)) (fun i _ => m - (intOf i).toNat)
          case atStart => exact ⟨0, rfl, by omega, Lib.hid (first_below HB8.out)⟩
          case round =>
            obtain ⟨c, rfl, hc, HBc⟩ := hrel
            have hc0 : (0 : Int) ≤ (c : Int) := Int.natCast_nonneg _
            have x2 := HBX.out _ HBc.out
            by_cases hcl : c < m
            · have hcl1 : (c : Int) < 2 * (g : Int) := by rw [← HMI.out]; omega
              obtain ⟨s, hs1, hs2, hs3⟩ := H40d.out c hcl
              obtain ⟨u9, hu9, hi9⟩ := HRR.out s hs2
              obtain ⟨Au, cu, rfl, -, -, -⟩ := hi9.open_
              have HLC : Hid (Fits [letter c]) := Lib.hid (fits_lok (g := g) (by omega) (lok_letter (by rw [← HMG.out]; exact hcl)))
              have HLT : Hid (∀ W, Calls Try.prog 61 #[.int .i64 (c : Int)] W fun e w' => e = .returned (.int .i64 (letter c)) ∧ w' = W) := Lib.hid fun W => letter61_any W c (by omega)
              have HSC := Lib.hid hs3
              have HSR : Hid (∀ W, Below w9.heap.size w9 W → W.cell? ⟨b9, o9 + s, none⟩ = some (.slice Au (R.getD s []).length cu) ∧ IntsAt W (.slice Au (R.getD s []).length cu) (R.getD s [])) := Lib.hid fun W h =>
                ⟨(h.cell (p := ⟨b9, o9 + s, none⟩) (World.block_lt_of_cell? w9 _ hu9)).trans hu9, hi9.below h⟩
              have H40s := Lib.hid (H40.out s hs2)
              have HPs := HPH.out s hs2
              have HCL : Hid (∀ W, Below w9.heap.size w9 W → W.cell? ⟨b7, o7 + c, none⟩ = some (.int .i64 (s : Int))) := Lib.hid fun W h => by rw [← hs1]; exact HCELL.out W h c hcl
              have hs4 : (0 : Int) ≤ (s : Int) := Int.natCast_nonneg _
              have hs5 : (s : Int) < (T1.length : Int) := by omega
              have HS2 := Lib.hid hs2
              clear hu9 hi9 hs1 hs2 hs3
              generalize letter c = lc at *
              generalize R.getD s [] = ws at *
              generalize hps : φ s = ps at *
              generalize φ r = pr at *
              clear hps
              go_wp2_with fail
              refine (wpIn_wide (n := 3)).1 ?_
              refine wpIn_region_own (by kernel_rfl) 13 rfl (fun i => ([some 160, some 161, some 162, some 163, some 164, some 165, some 166, some 167, some 159, some 168, some 169, some 23, some 24] : List (Option Nat)).getD i none) (lex_of (by kernel_rfl)) wr.heap.size (fun i => ([] : List Nat).contains i) (fun i j => (([[], [0], [], [], [], [4], [5], [1, 2, 3, 6], [7], [8], [8], [9], [10]] : List (List Nat)).getD i []).contains j) (fun W => Below wr.heap.size wr W) (fun j v O W => (([.eq (.pointer (some ⟨B, 0, none⟩)), .eq (.int .i64 (g : Int)), .eq (.slice A15 T2.length c15), .eq (.int .i64 (pr : Int)), .eq (.int .i64 (c : Int)), .eq (.int .i64 lc), .ints [lc], .eq (.tuple #[.int .i64 (ps : Int), .bool true]), .eq (.tuple #[.int .i64 (ps : Int), .bool true]), .eq (.int .i64 (ps : Int)), .eq (.bool true), .eq (.int .i64 (ps : Int)), .eq (.bool true)] : List FP).getD j FP.any).holds wr.heap.size v O W) (by kernel_rfl) (by kernel_rfl) (dm_inj (by kernel_rfl)) (fun j v O W W' _ _ h hs h1 h2 => FP.keep rfl h1 h2 hs h) (dm_lt (n := 208) (by kernel_rfl)) (Nat.le_refl _) (Below.refl _ _).drew ?_ ?_
              · intro O ls q o a w2 hq ho hS hbw hls hP hpre hdj
                have hcases : q = 0 ∨ q = 1 ∨ q = 2 ∨ q = 3 ∨ q = 4 ∨ q = 5 ∨ q = 6 ∨ q = 7 ∨ q = 8 ∨ q = 9 ∨ q = 10 ∨ q = 11 ∨ q = 12 := by
                  have : q < 13 := hq
                  omega
                rcases hcases with rfl | rfl | rfl | rfl | rfl | rfl | rfl | rfl | rfl | rfl | rfl | rfl | rfl
                · obtain rfl := Option.some.inj ho
                  exact wpOpIn_of rfl rfl (wpW_val (r_fld (.tmp 10) _ rfl (hP.out 10 (dm_out (by kernel_rfl))) (by kernel_rfl)) ⟨_, _, rfl, hS, (fun h => by simp at h), Step.same, rfl⟩)
                · obtain rfl := Option.some.inj ho
                  exact wpOpIn_of rfl rfl (wpW_val (r_load1 3 agg3 (.tmp 160) ⟨B, 0, none⟩ rfl (hpre 0 (by decide) rfl).1 (HBX.out _ (bl3 HBc.out hS))) ⟨_, _, rfl, hS, (fun h => by simp at h), Step.same, rfl⟩)
                · obtain rfl := Option.some.inj ho
                  exact wpOpIn_of rfl rfl (wpW_val (r_move (.tmp 15) rfl (hP.out 15 (dm_out (by kernel_rfl)))) ⟨_, _, rfl, hS, (fun h => by simp at h), Step.same, rfl⟩)
                · obtain rfl := Option.some.inj ho
                  exact wpOpIn_of rfl rfl (wpW_val (r_move (.tmp 20) rfl (hP.out 20 (dm_out (by kernel_rfl)))) ⟨_, _, rfl, hS, (fun h => by simp at h), Step.same, rfl⟩)
                · obtain rfl := Option.some.inj ho
                  exact wpOpIn_of rfl rfl (wpW_val (r_move (.tmp 22) rfl (hP.out 22 (dm_out (by kernel_rfl)))) ⟨_, _, rfl, hS, (fun h => by simp at h), Step.same, rfl⟩)
                · obtain rfl := Option.some.inj ho
                  exact wpOpIn_of rfl rfl (wpW_call (R := fun v w' => v = .int .i64 lc ∧ w' = w2) (r_call1 (.tmp 164) _ _ rfl (hpre 4 (by decide) rfl).1 call61) ((HLT.out w2).mono fun e w' ⟨he, hb⟩ => ⟨_, he, rfl, hb⟩)
                    (fun v w'' ⟨hv, hb⟩ => (by subst hb; exact ⟨v, _, rfl, hS, (fun h => by simp at h), Step.same, hv⟩)))
                · obtain rfl := Option.some.inj ho
                  have hal : Below w2.heap.size w2 (w2.alloc (.cells #[.int .i64 lc] 3)) := (Below.refl _ _).alloc (Nat.le_refl _) _
                  exact wpOpIn_of rfl rfl (wpW_val (r_bs1 (.tmp 165) lc rfl (hpre 5 (by decide) rfl).1) ⟨_, _, rfl, hS.trans (hal.mono hS.size), (fun h => by simp at h), Step.below hal, ints_one_new HLC.out⟩)
                · obtain rfl := Option.some.inj ho
                  obtain ⟨A, q, e6, i6⟩ := (hpre 6 (by decide) rfl).1
                  exact wpOpIn_of rfl rfl (wpW_call (R := fun v w' => v = .tuple #[.int .i64 (ps : Int), .bool true] ∧ Below w2.heap.size w2 w') (r_call4 (.tmp 161) (.tmp 162) (.tmp 163) (.tmp 166) _ _ _ _ _ rfl (hpre 1 (by decide) rfl).1 (hpre 2 (by decide) rfl).1 (hpre 3 (by decide) rfl).1 e6 call40) ((HSC.out w2 _ _ (HU.out _ (bl3 HBc.out hS)) i6.at_).mono fun e w' ⟨he, hb⟩ => ⟨_, he, rfl, hb⟩)
                    (fun v w'' ⟨hv, hb⟩ => ⟨v, _, rfl, hS.trans (hb.mono hS.size), (fun h => by simp at h), Step.below hb, hv⟩))
                · obtain rfl := Option.some.inj ho
                  exact wpOpIn_of rfl rfl (wpW_val (r_move (.tmp 167) rfl (hpre 7 (by decide) rfl).1) ⟨_, _, rfl, hS, (fun h => by simp at h), Step.same, rfl⟩)
                · obtain rfl := Option.some.inj ho
                  exact wpOpIn_of rfl rfl (wpW_val (r_extract 0 (.tmp 159) _ rfl (hpre 8 (by decide) rfl).1 rfl) ⟨_, _, rfl, hS, (fun h => by simp at h), Step.same, rfl⟩)
                · obtain rfl := Option.some.inj ho
                  exact wpOpIn_of rfl rfl (wpW_val (r_extract 1 (.tmp 159) _ rfl (hpre 8 (by decide) rfl).1 rfl) ⟨_, _, rfl, hS, (fun h => by simp at h), Step.same, rfl⟩)
                · obtain rfl := Option.some.inj ho
                  exact wpOpIn_of rfl rfl (wpW_val (r_assign (.tmp 168) rfl (hpre 9 (by decide) rfl).1) ⟨_, _, rfl, hS, (fun h => by simp at h), Step.same, rfl⟩)
                · obtain rfl := Option.some.inj ho
                  exact wpOpIn_of rfl rfl (wpW_val (r_assign (.tmp 169) rfl (hpre 10 (by decide) rfl).1) ⟨_, _, rfl, hS, (fun h => by simp at h), Step.same, rfl⟩)
              · intro O ls a w2 hall hS hbw hP hsl
                obtain ⟨vs, hvs, hfr⟩ := hP.frame 208 rfl
                have e23 : a.tmps.getD 23 undef = .int .i64 (ps : Int) := (hsl 11 (by decide) (.inl rfl)).1
                rw [← hvs] at e23
                have e24 : a.tmps.getD 24 undef = .bool true := (hsl 12 (by decide) (.inl rfl)).1
                rw [← hvs] at e24
                have HRN := Lib.hid hS
                clear hsl hP hall hS hvs hbw
                subst hfr
                dsimp only
                simp only [List.range, List.range.loop, List.map_cons, List.map_nil, List.any_cons, List.any_nil, Nat.reduceBEq, Option.some_beq_some, Bool.or_false, Bool.false_or, Bool.false_eq_true, if_true, if_false, List.getD_cons_zero, List.getD_cons_succ, e23, e24]
                have HBd := Lib.hid (bl3 HBc.out HRN.out)
                have x3 := HROWr.out _ HBd.out
                have x4 := HCL.out _ HBd.out
                go_wp2_with fail
                clear x2
                refine (wpIn_wide (n := 3)).1 ?_
                refine wpIn_region_own (by kernel_rfl) 13 rfl (fun i => ([some 190, some 191, some 192, some 193, some 194, some 195, some 196, some 197, some 189, some 198, some 199, some 26, some 27] : List (Option Nat)).getD i none) (lex_of (by kernel_rfl)) w2.heap.size (fun i => ([] : List Nat).contains i) (fun i j => (([[], [0], [], [], [], [3, 4], [5], [1, 2, 6], [7], [8], [8], [9], [10]] : List (List Nat)).getD i []).contains j) (fun W => Below w2.heap.size w2 W) (fun j v O W => (([.eq (.pointer (some ⟨B, 0, none⟩)), .eq (.int .i64 (g : Int)), .eq (.slice A15 T2.length c15), .eq (.slice (some ⟨b9, o9, none⟩) T1.length c9), .eq (.int .i64 (s : Int)), .eq (.pointer (some ⟨b9, o9 + s, none⟩)), .eq (.slice Au ws.length cu), .eq (.tuple #[.int .i64 (ps : Int), .bool true]), .eq (.tuple #[.int .i64 (ps : Int), .bool true]), .eq (.int .i64 (ps : Int)), .eq (.bool true), .eq (.int .i64 (ps : Int)), .eq (.bool true)] : List FP).getD j FP.any).holds w2.heap.size v O W) (by kernel_rfl) (by kernel_rfl) (dm_inj (by kernel_rfl)) (fun j v O W W' _ _ h hs h1 h2 => FP.keep rfl h1 h2 hs h) (dm_lt (n := 208) (by kernel_rfl)) (Nat.le_refl _) (Below.refl _ _).drew ?_ ?_
                · intro O ls q o a w5 hq ho hS hbw hls hP hpre hdj
                  have hcases : q = 0 ∨ q = 1 ∨ q = 2 ∨ q = 3 ∨ q = 4 ∨ q = 5 ∨ q = 6 ∨ q = 7 ∨ q = 8 ∨ q = 9 ∨ q = 10 ∨ q = 11 ∨ q = 12 := by
                    have : q < 13 := hq
                    omega
                  rcases hcases with rfl | rfl | rfl | rfl | rfl | rfl | rfl | rfl | rfl | rfl | rfl | rfl | rfl
                  · obtain rfl := Option.some.inj ho
                    exact wpOpIn_of rfl rfl (wpW_val (r_fld (.tmp 10) _ rfl (hP.out 10 (dm_out (by kernel_rfl))) (by kernel_rfl)) ⟨_, _, rfl, hS, (fun h => by simp at h), Step.same, rfl⟩)
                  · obtain rfl := Option.some.inj ho
                    exact wpOpIn_of rfl rfl (wpW_val (r_load1 3 agg3 (.tmp 190) ⟨B, 0, none⟩ rfl (hpre 0 (by decide) rfl).1 (HBX.out _ (bl3 HBd.out hS))) ⟨_, _, rfl, hS, (fun h => by simp at h), Step.same, rfl⟩)
                  · obtain rfl := Option.some.inj ho
                    exact wpOpIn_of rfl rfl (wpW_val (r_move (.tmp 15) rfl (hP.out 15 (dm_out (by kernel_rfl)))) ⟨_, _, rfl, hS, (fun h => by simp at h), Step.same, rfl⟩)
                  · obtain rfl := Option.some.inj ho
                    exact wpOpIn_of rfl rfl (wpW_val (r_move (.tmp 18) rfl (hP.out 18 (dm_out (by kernel_rfl)))) ⟨_, _, rfl, hS, (fun h => by simp at h), Step.same, rfl⟩)
                  · obtain rfl := Option.some.inj ho
                    exact wpOpIn_of rfl rfl (wpW_val (r_move (.tmp 25) rfl (hP.out 25 (dm_out (by kernel_rfl)))) ⟨_, _, rfl, hS, (fun h => by simp at h), Step.same, rfl⟩)
                  · obtain rfl := Option.some.inj ho
                    exact wpOpIn_of rfl rfl (wpW_val (r_idx (.tmp 193) (.tmp 194) _ _ rfl (hpre 3 (by decide) rfl).1 (hpre 4 (by decide) rfl).1 (idx_offs Try.underlying31 size25 b9 o9 T1.length c9 s HS2.out _)) ⟨_, _, rfl, hS, (fun h => by simp at h), Step.same, rfl⟩)
                  · obtain rfl := Option.some.inj ho
                    exact wpOpIn_of rfl rfl (wpW_val (r_load1 25 agg25 (.tmp 195) ⟨b9, o9 + s, none⟩ rfl (hpre 5 (by decide) rfl).1 (HSR.out _ (bl3 HBd.out hS)).1) ⟨_, _, rfl, hS, (fun h => by simp at h), Step.same, rfl⟩)
                  · obtain rfl := Option.some.inj ho
                    exact wpOpIn_of rfl rfl (wpW_call (R := fun v w' => v = .tuple #[.int .i64 (ps : Int), .bool true] ∧ Below w5.heap.size w5 w') (r_call4 (.tmp 191) (.tmp 192) (.const (.int .i64 0)) (.tmp 196) _ _ _ _ _ rfl (hpre 1 (by decide) rfl).1 (hpre 2 (by decide) rfl).1 rfl (hpre 6 (by decide) rfl).1 call40) ((H40s.out w5 _ _ (HU.out _ (bl3 HBd.out hS)) (HSR.out _ (bl3 HBd.out hS)).2).mono fun e w' ⟨he, hb⟩ => ⟨_, he, rfl, hb⟩)
                      (fun v w'' ⟨hv, hb⟩ => ⟨v, _, rfl, hS.trans (hb.mono hS.size), (fun h => by simp at h), Step.below hb, hv⟩))
                  · obtain rfl := Option.some.inj ho
                    exact wpOpIn_of rfl rfl (wpW_val (r_move (.tmp 197) rfl (hpre 7 (by decide) rfl).1) ⟨_, _, rfl, hS, (fun h => by simp at h), Step.same, rfl⟩)
                  · obtain rfl := Option.some.inj ho
                    exact wpOpIn_of rfl rfl (wpW_val (r_extract 0 (.tmp 189) _ rfl (hpre 8 (by decide) rfl).1 rfl) ⟨_, _, rfl, hS, (fun h => by simp at h), Step.same, rfl⟩)
                  · obtain rfl := Option.some.inj ho
                    exact wpOpIn_of rfl rfl (wpW_val (r_extract 1 (.tmp 189) _ rfl (hpre 8 (by decide) rfl).1 rfl) ⟨_, _, rfl, hS, (fun h => by simp at h), Step.same, rfl⟩)
                  · obtain rfl := Option.some.inj ho
                    exact wpOpIn_of rfl rfl (wpW_val (r_assign (.tmp 198) rfl (hpre 9 (by decide) rfl).1) ⟨_, _, rfl, hS, (fun h => by simp at h), Step.same, rfl⟩)
                  · obtain rfl := Option.some.inj ho
                    exact wpOpIn_of rfl rfl (wpW_val (r_assign (.tmp 199) rfl (hpre 10 (by decide) rfl).1) ⟨_, _, rfl, hS, (fun h => by simp at h), Step.same, rfl⟩)
                · intro O ls a w5 hall hS hbw hP hsl
                  obtain ⟨vs, hvs, hfr⟩ := hP.frame 208 rfl
                  have e26 : a.tmps.getD 26 undef = .int .i64 (ps : Int) := (hsl 11 (by decide) (.inl rfl)).1
                  rw [← hvs] at e26
                  have e27 : a.tmps.getD 27 undef = .bool true := (hsl 12 (by decide) (.inl rfl)).1
                  rw [← hvs] at e27
                  have HRN := Lib.hid hS
                  clear hsl hP hall hS hvs hbw
                  subst hfr
                  dsimp only
                  simp only [List.range, List.range.loop, List.map_cons, List.map_nil, List.any_cons, List.any_nil, Nat.reduceBEq, Option.some_beq_some, Bool.or_false, Bool.false_or, Bool.false_eq_true, if_true, if_false, List.getD_cons_zero, List.getD_cons_succ, e26, e27]
                  have HBe := Lib.hid (bl3 HBd.out HRN.out)
                  go_wp2_with fail
                  go_roundw
                  case rel => exact ⟨c + 1, by go_num, by omega, HBe⟩
                  case measure => simp [intOf]; omega
            · obtain rfl : c = m := by omega
              have hcl1 : (c : Int) = 2 * (g : Int) := HMI.out
              go_wp2_with fail
              go_roundw
              case rel => exact ⟨r + 1, by go_num, by omega, HBc⟩
              case measure => simp [intOf]; omega
      · obtain rfl : r = T1.length := by omega
        rename World => wx
        go_wp2_with fail
        go_ret
        exact ⟨rfl, bl3 HM9.out HBr.out⟩
end Go.Proofs
namespace Go.Proofs
open Go.RowKit Go.ChangeShapes Go.WideShapes Go.ChangeAt Go.Deep
section
variable {H : Type} {enc : TypeId × Value → H} {W : World}
theorem spot_none {a : Addr} {v : Value} (h : W.cell? (a.add 0) = some v) : a = ⟨a.block, a.off, none⟩ := by
  obtain ⟨b, o, s⟩ := a
  cases s with
  | none => rfl
  | some q =>
    exfalso
    have e : ({ block := b, off := o, spot := some q } : Addr).add 0 = { block := b, off := o, spot := some q } := by unfold Addr.add; rw [if_pos rfl]
    rw [e] at h
    unfold World.cell? at h
    simp only [Option.isSome_some, if_true] at h
    split at h <;> cases h
theorem wf_fits {x : Int} (h : (Lit.int .i64 x).wf = true) : -9223372036854775808 ≤ x ∧ x ≤ 9223372036854775807 := by
  simpa [Lit.wf, IntKind.min, IntKind.max, IntKind.signed, IntKind.bits] using h
theorem lat_of_trod {α : Type} {R : World → Value → α → Prop} {d : α} {t e : TypeId} {base fuel : Nat} {spare : Nat → Bool} {held : Bool} {v : Value} {x : DataW H × List MemPlace} (ht : Try.prog.underlying t = some (.slice e)) (hc : Try.prog.cellsOf e = 1)
    (hR : ∀ n u y, DataW.trod enc Try.prog W base spare held n e [u] = some y → ∃ z, R W u z) (h : DataW.trod enc Try.prog W base spare held fuel t [v] = some x) : ∃ xs, LAt R d W v xs := by
  rcases open_slice1 ht hc h with ⟨hv, -⟩ | ⟨a, len, cap, m, n, V, D, Pl, hv, -, hl, hm, hmm, -, hx⟩
  · obtain rfl : v = .slice none 0 0 := by simpa using hv
    exact ⟨[], [], ⟨none, 0, 0, rfl, rfl, Nat.le_refl _, by simp [maxLen], fun h => absurd h (by simp)⟩, rfl, fun i hi => absurd hi (by simp)⟩
  · obtain rfl : v = .slice (some a) len cap := by simpa using hv
    have hlm : len ≤ m := by rw [hmm]; split <;> omega
    have hz : ∀ i, i < len → ∃ z, R W (V i) z := fun i hi => hR n (V i) _ (hx i (by omega)).2
    have hf : ∃ f : Nat → α, ∀ i, i < len → R W (V i) (f i) := by
      have hz' : ∀ i, ∃ z, i < len → R W (V i) z := fun i => by
        by_cases hi : i < len
        · obtain ⟨z, hz⟩ := hz i hi; exact ⟨z, fun _ => hz⟩
        · exact ⟨d, fun h => absurd h hi⟩
      exact ⟨fun i => Classical.choose (hz' i), fun i => Classical.choose_spec (hz' i)⟩
    obtain ⟨f, hf⟩ := hf
    refine ⟨(List.range len).map f, (List.range len).map V, ⟨_, len, cap, rfl, by simp, hl, hm, fun h0 => ?_⟩, by simp, fun i hi => ?_⟩
    · have hsp := spot_none (hx 0 (by omega)).1
      refine ⟨a.block, a.off, by rw [← hsp], fun j u hu => ?_⟩
      have hj : j < len := by have := (List.getElem?_eq_some_iff.1 hu).1; simpa using this
      have := (hx j (by omega)).1
      rw [hsp, Addr.add_lit] at this
      rw [this, ← hu]
      simp [List.getElem?_range hj]
    · have hi' : i < len := by simpa using hi
      refine ⟨V i, by simp [List.getElem?_range hi'], ?_⟩
      have : ((List.range len).map f).getD i d = f i := by simp [List.getD_eq_getElem?_getD, List.getElem?_range hi']
      rw [this]
      exact hf i hi'
theorem intsT_of_trod {t : TypeId} (ht : Try.prog.underlying t = some (.slice 3)) {base fuel : Nat} {spare : Nat → Bool} {held : Bool} {v : Value} {x : DataW H × List MemPlace} (h : DataW.trod enc Try.prog W base spare held fuel t [v] = some x) : ∃ xs, IntsAt W v xs := by
  obtain ⟨xs, vs, hS, hl, he⟩ := lat_of_trod (R := fun _ u z => u = .int .i64 z ∧ (Lit.int .i64 z).wf = true) (d := 0) ht (by kernel_rfl) (fun n u y hy => by
    obtain ⟨m, hu, -, hw⟩ := DataW.trod_int Try.underlying3 hy
    exact ⟨m, by simpa using hu, hw⟩) h
  have hvs : vs = ints xs := by
    apply List.ext_getElem (by simpa [ints] using hl)
    intro i h1 h2
    obtain ⟨u, hu, rfl, -⟩ := he i (by omega)
    have hi : i < xs.length := by omega
    rw [List.getElem?_eq_getElem h1] at hu
    rw [Option.some.inj hu]
    simp [ints, List.getD_eq_getElem?_getD, hi]
  refine ⟨xs, hvs ▸ hS, fun z hz => ?_⟩
  obtain ⟨i, hi, rfl⟩ := List.getElem_of_mem hz
  obtain ⟨u, -, -, hw⟩ := he i hi
  have e : xs.getD i 0 = xs[i] := by simp [List.getD_eq_getElem?_getD, hi]
  rw [e] at hw
  exact wf_fits hw
theorem ints_of_trod {base fuel : Nat} {spare : Nat → Bool} {held : Bool} {v : Value} {x : DataW H × List MemPlace} (h : DataW.trod enc Try.prog W base spare held fuel 24 [v] = some x) : ∃ xs, IntsAt W v xs := intsT_of_trod Try.underlying24 h
end
end Go.Proofs
