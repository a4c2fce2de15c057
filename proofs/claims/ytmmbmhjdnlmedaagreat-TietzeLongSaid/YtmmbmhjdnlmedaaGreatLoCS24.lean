/- The walk of the law's awake; The law that Eliminate answers as the reference does; Plain: which eliminations are refused because they become too long (TietzeLong); The law of the eliminations that grow too long; Arguments opened: lists of numbers, tables, presentations. -/
import Derived.Test.YtmmbmhjdnlmedaaGreatLoCS23
import Derived.Test.YtmmbmhjdnlmedaaGreatLoCS10
import Derived.Test.YtmmbmhjdnlmedaaGreatLoCS8
import Derived.Test.YtmmbmhjdnlmedaaGreatLoCS13
import Derived.Test.YtmmbmhjdnlmedaaGreatLoCS1
import Derived.ProofKit
import Derived.Deep.Slices
import Derived.Deep.Strs
namespace Go.Proofs
open Go.RowKit Go.Shelf Go.Lib Go.Sort Go.Proofs.Ct Go.Proofs.Tz Go.Maps
set_option maxRecDepth 100000 in
set_option maxHeartbeats 4000000 in
theorem awake12_any (w : World) : Calls Tryz.prog 8 #[] w fun e w' => e = .returned (.bool true) ∧ Below w.heap.size w w' := by
  have HS1 := Lib.hid (simpK 3 [[3, -2, -1], [1, 1], [2, 2, 2], [3, 3]] 100 2 [[1, 1], [2, 2, 2], [1, 2, 1, 2]] [[1], [2], [1, 2]] [1, 2] 3 3 2 pres_awake simp_awake (by decide) rfl rfl rfl)
  go_enter Tryz.func8, Tryz.ntmps8
  have HB0 := Lib.hid (Below.refl w.heap.size w)
  have ht := lit4 w [3, -2, -1] [1, 1] [2, 2, 2] [3, 3] (fits_lit (by decide)) (fits_lit (by decide)) (fits_lit (by decide)) (fits_lit (by decide)) rfl rfl rfl rfl (by decide) (e := 36)
  have hx := lit4_below w [3, -2, -1] [1, 1] [2, 2, 2] [3, 3] 3 2 3 2 (e := 36)
  have HT1 := Lib.hid ht
  have HL2 := Lib.hid hx
  clear ht hx
  have HB3 := Lib.hid (bl3 HB0.out HL2.out)
  clear HB0
  go_wp2_with fail
  refine (HS1.out _ _ HT1.out).mono ?_
  rintro e v4 ⟨⟨A1, c1, A2, c2, A3, c3, rfl, t1, t2, t3⟩, hb⟩
  have HB5 := Lib.hid (bl3 HB3.out hb)
  have HF6 := Lib.hid (kept_tab.below HT1.out hb)
  clear HT1
  clear HB3
  have HF7 := Lib.hid t1
  clear t1
  have HF8 := Lib.hid t2
  clear t2
  have HF9 := Lib.hid t3
  clear t3
  clear hb
  clear HF6
  have HN10 : Hid ((v4.alloc (.cells #[.int .i64 2, .slice A1 3 c1] 24)).heap[v4.heap.size]? = some (.cells #[.int .i64 2, .slice A1 3 c1] 24 (0, 0))) := Lib.hid (heap_alloc_new _ _)
  have HL11 : Hid (Below v4.heap.size v4 (v4.alloc (.cells #[.int .i64 2, .slice A1 3 c1] 24))) := Lib.hid ((Below.refl _ _).alloc (Nat.le_refl _) _)
  have HB12 := Lib.hid (bl3 HB5.out HL11.out)
  have HF13 := Lib.hid (kept_tab.below HF7.out HL11.out)
  clear HF7
  have HF14 := Lib.hid (kept_tab.below HF8.out HL11.out)
  clear HF8
  have HF15 := Lib.hid (IntsAt.below HF9.out HL11.out)
  clear HF9
  clear HB5
  clear HL11
  have ht := lit3 (v4.alloc (.cells #[.int .i64 2, .slice A1 3 c1] 24)) [1, 1] [2, 2, 2] [1, 2, 1, 2] (fits_lit (by decide)) (fits_lit (by decide)) (fits_lit (by decide)) rfl rfl rfl (by decide) (e := 36)
  have hx := lit3_below (v4.alloc (.cells #[.int .i64 2, .slice A1 3 c1] 24)) [1, 1] [2, 2, 2] [1, 2, 1, 2] 2 3 4 (e := 36)
  simp only [World.size_alloc] at ht hx
  replace hx := below_sz hx
  have HT16 := Lib.hid ht
  have HL17 := Lib.hid hx
  clear ht hx
  have HB18 := Lib.hid (bl3 HB12.out HL17.out)
  have HF19 := Lib.hid (kept_tab.below HF13.out HL17.out)
  clear HF13
  have HF20 := Lib.hid (kept_tab.below HF14.out HL17.out)
  clear HF14
  have HF21 := Lib.hid (IntsAt.below HF15.out HL17.out)
  clear HF15
  have HF22 := Lib.hid ((HL17.out.block _ (Array.getElem?_eq_some_iff.1 HN10.out).1).trans HN10.out)
  clear HN10
  clear HB12
  go_wp2_with (first
    | ((with_reducible refine wpList_sel 20 ?_); refine wpList_val rfl (r_loadAt 24 (.tmp 1) _ _ rfl rfl (load40 HN10.out)) ?_))
  refine (sameK HF19.out HT16.out).mono ?_
  rintro e v23 ⟨rfl, hb⟩
  have HB24 := Lib.hid (bl3 HB18.out hb)
  have HF25 := Lib.hid (kept_tab.below HF19.out hb)
  clear HF19
  have HF26 := Lib.hid (kept_tab.below HF20.out hb)
  clear HF20
  have HF27 := Lib.hid (IntsAt.below HF21.out hb)
  clear HF21
  have HF28 := Lib.hid ((hb.block _ (Array.getElem?_eq_some_iff.1 HF22.out).1).trans HF22.out)
  clear HF22
  have HF29 := Lib.hid (kept_tab.below HT16.out hb)
  clear HT16
  clear HB18
  clear hb
  clear HF29
  clear HF25
  clear HF28
  have ht := lit3 v23 [1] [2] [1, 2] (fits_lit (by decide)) (fits_lit (by decide)) (fits_lit (by decide)) rfl rfl rfl (by decide) (e := 36)
  have hx := lit3_below v23 [1] [2] [1, 2] 1 1 2 (e := 36)
  have HT30 := Lib.hid ht
  have HL31 := Lib.hid hx
  clear ht hx
  have HB32 := Lib.hid (bl3 HB24.out HL31.out)
  have HF33 := Lib.hid (kept_tab.below HF26.out HL31.out)
  clear HF26
  have HF34 := Lib.hid (IntsAt.below HF27.out HL31.out)
  clear HF27
  clear HB24
  go_wp2_with fail
  refine (equalK HF33.out HT30.out).mono ?_
  rintro e v35 ⟨rfl, hb⟩
  have HB36 := Lib.hid (bl3 HB32.out hb)
  have HF37 := Lib.hid (kept_tab.below HF33.out hb)
  clear HF33
  have HF38 := Lib.hid (IntsAt.below HF34.out hb)
  clear HF34
  have HF39 := Lib.hid (kept_tab.below HT30.out hb)
  clear HT30
  clear HB32
  clear hb
  clear HF39
  clear HF37
  have HT40 := Lib.hid (ints_lit v35 [1, 2] (fits_lit (by decide)) 2 rfl (by decide))
  have HL41 : Hid (Below v35.heap.size v35 (v35.alloc (.cells (ints [1, 2]).toArray 3))) := Lib.hid ((Below.refl _ _).alloc (Nat.le_refl _) _)
  have HB42 := Lib.hid (bl3 HB36.out HL41.out)
  have HF43 := Lib.hid (IntsAt.below HF38.out HL41.out)
  clear HF38
  clear HB36
  go_wp2_with fail
  refine (numbersK HF43.out HT40.out).mono ?_
  rintro e v44 ⟨rfl, hb⟩
  have HB45 := Lib.hid (bl3 HB42.out hb)
  have HF46 := Lib.hid (IntsAt.below HF43.out hb)
  clear HF43
  have HF47 := Lib.hid (IntsAt.below HT40.out hb)
  clear HT40
  clear HB42
  clear hb
  clear HF47
  clear HF46
  go_wp2_with fail
  go_ret
  exact ⟨rfl, HB45.out⟩
end Go.Proofs
namespace Go.Proofs
open Go.RowKit Go.Shelf Go.Lib Go.Sort Go.Proofs.Ct Go.Proofs.Tz Go.Maps
/-- what both eliminations answer -/
def EP (x m : Int) (R I : List (List Int)) (w : World) (e : Ending) (w' : World) : Prop :=
  (∃ A c B d, e = .returned (.tuple #[.agg #[.int .i64 m, .slice A R.length c], .slice B I.length d, .int .i64 x]) ∧ Tab w' (.slice A R.length c) R ∧ Tab w' (.slice B I.length d) I) ∧ Below w.heap.size w w'
theorem ep_err {x : Int} {w w' : World} {e : Ending} (h : ElimErr x w e w') : EP x 0 [] [] w e w' := ⟨⟨none, 0, none, 0, h.1, tab_nil, tab_nil⟩, h.2⟩
end Go.Proofs
namespace Go.Proofs.Tz
open Go.Proofs.Ct (W red inv mulW invW opp foldTo push redTo LOk)
theorem getD_rep {n i : Nat} {x : Int} (h : i < n) : (List.replicate n x).getD i 0 = x := by simp [List.getD_eq_getElem?_getD, h]
theorem rd_rep (n : Nat) (x : Int) : RdI (List.replicate n x) := fun i hi => by
  rw [List.length_replicate] at hi
  rw [getD_rep (by omega), getD_rep hi, opp_false]
  omega
theorem inv_rep (n : Nat) (x : Int) : inv (List.replicate n x) = List.replicate n (-x) := by simp [Ct.inv]
theorem mul_rep (n m : Nat) (x : Int) : mulW (List.replicate n x) (List.replicate m x) = List.replicate (n + m) x := by
  unfold Ct.mulW
  rw [List.replicate_append_replicate]
  exact red_of_rd (rd_rep _ _)
theorem invW_rep (n : Nat) (x : Int) : invW (List.replicate n x) = List.replicate n (-x) := by
  unfold Ct.invW
  rw [inv_rep]
  exact red_of_rd (rd_rep _ _)
def longP (L k : Nat) : List W := [2 :: List.replicate L 1, List.replicate k 2]
theorem long_once (L : Nat) : onceW (2 :: List.replicate L 1) ((2 : Nat) : Int) = some 0 := by
  have h0 : (List.replicate L (1 : Int)).countP (isG 2) = 0 := by
    rw [List.countP_eq_zero]
    intro x hx
    rw [List.eq_of_mem_replicate hx]
    decide
  unfold onceW
  show (if (2 :: List.replicate L (1 : Int)).countP (isG 2) = 1 then some ((2 :: List.replicate L (1 : Int)).findIdx (isG 2)) else none) = _
  rw [List.countP_cons, h0, if_pos (by decide), List.findIdx_cons]
  rfl
theorem long_img (L : Nat) : imgW (2 :: List.replicate L 1) 0 = List.replicate L (-1) := by
  unfold imgW
  simp only [List.take_zero, List.drop_succ_cons, List.drop_zero, Nat.zero_add, List.getD_cons_zero]
  rw [if_neg (by omega), invW_rep]
  have : invW [] = List.replicate 0 (-1) := rfl
  rw [this, mul_rep, Nat.zero_add]
theorem long_imgs (L : Nat) : imgsW 2 2 (List.replicate L (-1)) = [[1], List.replicate L (-1)] := by
  unfold imgsW
  simp only [List.range, List.range.loop, List.map_cons, List.map_nil]
  have : lowW 2 (List.replicate L (-1)) = List.replicate L (-1) := by
    unfold lowW
    rw [List.map_replicate]
    rfl
  simp [this]
  rfl
theorem long_sb (L k : Nat) : sbW [[1], List.replicate L (-1)] (List.replicate k 2) = List.replicate (L * k) (-1) := by
  have key : ∀ j, j ≤ k → sbTo [[1], List.replicate L (-1)] (List.replicate k 2) j = List.replicate (L * j) (-1) := by
    intro j
    induction j with
    | zero => intro _; rfl
    | succ j ih =>
      intro hj
      show mulW (sbTo _ _ j) (if 0 < (List.replicate k (2 : Int)).getD j 0 then _ else _) = _
      rw [ih (by omega), getD_rep (by omega), if_pos (by omega)]
      show mulW (List.replicate (L * j) (-1)) (List.replicate L (-1)) = _
      rw [mul_rep, Nat.mul_succ]
  have := key k (Nat.le_refl _)
  unfold sbW
  rw [List.length_replicate]
  exact this
/-- it is eliminated just where nothing becomes too long -/
theorem long_law (L k : Nat) : (∃ q, elimE 2 (longP L k) 0 2 = .inl q) ∧ L ≤ 1000 ∧ L * k ≤ 4000 ∨ elimE 2 (longP L k) 0 2 = .inr 4 ∧ ¬ (L ≤ 1000 ∧ L * k ≤ 4000) := by
  have h0 : onceW ((longP L k).getD 0 []) ((2 : Nat) : Int) = some 0 := long_once L
  unfold elimE
  rw [h0]
  simp only
  rw [if_neg (by omega)]
  show (∃ q, (if 1000 < (imgW (2 :: List.replicate L 1) 0).length then _ else _) = _) ∧ _ ∨ (if 1000 < (imgW (2 :: List.replicate L 1) 0).length then _ else _) = _ ∧ _
  rw [long_img, List.length_replicate]
  by_cases h1 : 1000 < L
  · rw [if_pos h1]
    exact .inr ⟨rfl, by omega⟩
  · rw [if_neg h1]
    have e1 : imgsW 2 2 (imgW ((longP L k).getD 0 []) 0) = [[1], List.replicate L (-1)] := by
      show imgsW 2 2 (imgW (2 :: List.replicate L 1) 0) = _
      rw [long_img, long_imgs]
    have e2 : (longP L k).eraseIdx 0 = [List.replicate k 2] := rfl
    rw [e1, e2]
    unfold sbL
    simp only [List.all_cons, List.all_nil, Bool.and_true, long_sb, List.length_replicate, List.map_cons, List.map_nil]
    by_cases h2 : L * k ≤ 4000
    · simp only [h2, decide_true, if_true]
      have h3 : lenL [List.replicate (L * k) (-1)] = L * k := by simp [lenL]
      rw [h3, if_neg (by omega)]
      exact .inl ⟨⟨_, rfl⟩, by omega, trivial⟩
    · simp only [h2, decide_false]
      exact .inr ⟨rfl, fun h => h.2.elim⟩
end Go.Proofs.Tz
namespace Go.Proofs
open Go.RowKit Go.Shelf Go.Lib Go.Sort Go.Proofs.Ct Go.Proofs.Tz Go.Maps
theorem long_pres {L k : Nat} (hL : L ≤ 2000) (hk : k ≤ 100) : presE 2 (longP L k) = 0 := by
  refine presE_of (g := 2) ⟨by omega, by omega⟩ (by simp [longP]) (fun z hz => ?_) ?_
  · simp only [longP, List.mem_cons, List.not_mem_nil, or_false] at hz
    rcases hz with rfl | rfl
    · intro y hy
      rcases List.mem_cons.1 hy with rfl | h
      · decide
      · rw [List.eq_of_mem_replicate h]; decide
    · intro y hy
      rw [List.eq_of_mem_replicate hy]; decide
  · simp [longP, lenL]
    omega
theorem elim_longs (L k : Nat) (hL : L ≤ 2000) (hk : k ≤ 100) : ∃ (x m : Int) (R I : List (List Int)), (∀ (W : World) (vr : Value), Tab W vr (longP L k) → Calls Tryz.prog 9 #[.agg #[.int .i64 2, vr], .int .i64 0, .int .i64 2] W (EP x m R I W) ∧ Calls Tryz.prog 10 #[.agg #[.int .i64 2, vr], .int .i64 0, .int .i64 2] W (EP x m R I W)) ∧ (x = 0 ∧ L ≤ 1000 ∧ L * k ≤ 4000 ∨ x = 4 ∧ ¬ (L ≤ 1000 ∧ L * k ≤ 4000)) := by
  have he : presE ((2 : Nat) : Int) (longP L k) = 0 := long_pres hL hk
  have hr : 0 < (longP L k).length := by simp [longP]
  have hg : 1 ≤ 2 ∧ 2 ≤ 2 := ⟨by omega, by omega⟩
  rcases long_law L k with ⟨⟨⟨l, im⟩, hq⟩, h1, h2⟩ | ⟨hq, h1⟩
  · refine ⟨0, ((2 : Nat) : Int) - 1, l, im, fun W vr h => ⟨(elim6_any W vr 2 _ 0 2 h he hr hg).mono fun e w' q => ?_, (elim10_any W vr 2 _ 0 2 h (lens_of he) he hr hg).mono fun e w' q => ?_⟩, .inl ⟨rfl, h1, h2⟩⟩
    · unfold ElimPost at q
      rw [hq] at q
      obtain ⟨⟨A, c, F, B, d, G, h1, h2, h3⟩, h4⟩ := q
      exact ⟨⟨A, c, B, d, h1, OwnT.tab h2.out, OwnT.tab h3.out⟩, h4⟩
    · unfold RElimPost at q
      rw [hq] at q
      obtain ⟨⟨A, c, B, d, h1, h2, h3⟩, h4⟩ := q
      exact ⟨⟨A, c, B, d, h1, h2.tab, h3.tab⟩, h4⟩
  · refine ⟨4, 0, [], [], fun W vr h => ⟨(elim6_any W vr 2 _ 0 2 h he hr hg).mono fun e w' q => ?_, (elim10_any W vr 2 _ 0 2 h (lens_of he) he hr hg).mono fun e w' q => ?_⟩, .inr ⟨rfl, h1⟩⟩
    · unfold ElimPost at q
      rw [hq] at q
      exact ep_err q
    · unfold RElimPost at q
      rw [hq] at q
      exact ep_err q
theorem rep_snoc (x : Int) (i : Nat) : List.replicate i x ++ [x] = List.replicate (i + 1) x := List.replicate_succ'.symm
set_option maxRecDepth 100000 in
set_option maxHeartbeats 4000000 in
theorem long4_any (w : World) (len often : Int) (_h1 : -9223372036854775808 ≤ len ∧ len ≤ 9223372036854775807) (_h2 : -9223372036854775808 ≤ often ∧ often ≤ 9223372036854775807) : Calls Tryz.prog 4 #[.int .i64 len, .int .i64 often] w fun e w' => e = .returned (.bool true) ∧ Below w.heap.size w w' := by
  obtain ⟨a, ha⟩ : ∃ a : Nat, len % 21 = (a : Int) := ⟨(len % 21).toNat, by omega⟩
  obtain ⟨k, hk⟩ : ∃ k : Nat, often % 6 = (k : Int) := ⟨(often % 6).toNat, by omega⟩
  obtain ⟨L, hL⟩ : ∃ L : Nat, (990 : Int) + (a : Int) = (L : Int) := ⟨990 + a, by omega⟩
  have HT1 : Hid (∀ W, Calls Tryz.prog 15 #[.int .i64 len, .int .i64 21] W fun e w' => e = .returned (.int .i64 (a : Int)) ∧ w' = W) := Lib.hid fun W => by
    have h := turn59_any W len 21 ⟨by omega, by omega⟩
    rw [show ((21 : Nat) : Int) = 21 from rfl, ha] at h
    exact h
  have HT2 : Hid (∀ W, Calls Tryz.prog 15 #[.int .i64 often, .int .i64 6] W fun e w' => e = .returned (.int .i64 (k : Int)) ∧ w' = W) := Lib.hid fun W => by
    have h := turn59_any W often 6 ⟨by omega, by omega⟩
    rw [show ((6 : Nat) : Int) = 6 from rfl, hk] at h
    exact h
  have ha0 : (0 : Int) ≤ (a : Int) := Int.natCast_nonneg _
  have ha1 : (a : Int) ≤ 20 := by omega
  have hk0 : (0 : Int) ≤ (k : Int) := Int.natCast_nonneg _
  have hk1 : (k : Int) ≤ 5 := by omega
  have hL0 : (0 : Int) ≤ (L : Int) := Int.natCast_nonneg _
  have hL1 : (L : Int) ≤ 1010 := by omega
  clear ha hk
  go_enter Tryz.func4, Tryz.ntmps4
  go_wp2_with fail
  refine (HT1.out _).mono ?_
  rintro e w1 ⟨rfl, rfl⟩
  go_wp2_with fail
  refine (HT2.out _).mono ?_
  rintro e w2 ⟨rfl, rfl⟩
  clear HT1 HT2
  go_upto_region 3 with fail
  obtain ⟨sb, hsb⟩ : ∃ sb, sb = w2.heap.size + 1 := ⟨_, rfl⟩
  obtain ⟨w0, hw0⟩ : ∃ w0, w0 = (w2.alloc (.cells #[.int .i64 2] 3)).alloc (.cells #[] 3) := ⟨_, rfl⟩
  have h5 : w0.heap[w2.heap.size]? = some (.cells #[.int .i64 2] 3 (0, 0)) := by rw [hw0]; exact (Below.heap_alloc _ _ _ (by simp)).trans (heap_alloc_new w2 _)
  have h6 : w0.heap[sb]? = some (.cells #[] 3 (0, 0)) := by
    rw [hw0, hsb]
    have := heap_alloc_new (w2.alloc (.cells #[.int .i64 2] 3)) (.cells #[] 3); rwa [World.size_alloc] at this
  have hb0 : Below w2.heap.size w2 w0 := by rw [hw0]; exact ((Below.refl _ _).alloc (Nat.le_refl _) _).alloc (by simp) _
  have HST : Hid (OwnI w2.heap.size w0 (.slice (some ⟨w2.heap.size, 0, none⟩) (0 + 1) 1) (2 :: List.replicate 0 1) ∧ w0.heap[sb]? = some (.cells #[] 3 (0, 0)) ∧ (Value.slice (some ⟨w2.heap.size, 0, none⟩) (0 + 1) 1).ownBlock ≠ some sb ∧ Below w2.heap.size w2 w0) := Lib.hid ⟨⟨rfl, .inr ⟨w2.heap.size, 1, _, rfl, Nat.le_refl _, h5, Nat.le_refl _, by simp [maxLen], rfl, rfl⟩⟩, h6, (fun e => by
    have h : w2.heap.size = sb := Option.some.inj e
    omega), hb0⟩
  have HSB : Hid (w2.heap.size ≤ sb) := Lib.hid (by omega)
  rw [← hw0, ← hsb]
  clear h5 h6 hb0 hw0 hsb
  go_wp2_with fail
  go_loopw [5, 7] (fun v5 v7 wr => ∃ (i : Nat) (A : Option Addr) (c : Nat), i ≤ L ∧ v7 = .int .i64 (i : Int) ∧ v5 = .slice A (i + 1) c ∧ Hid (OwnI w2.heap.size wr (.slice A (i + 1) c) (2 :: List.replicate i 1) ∧ wr.heap[sb]? = some (.cells #[] 3 (0, 0)) ∧ (Value.slice A (i + 1) c).ownBlock ≠ some sb ∧ Below w2.heap.size w2 wr)) (fun _ v7 _ => L - (intOf v7).toNat)
  case atStart => exact ⟨0, _, _, Nat.zero_le _, rfl, rfl, HST⟩
  case round =>
    clear HST
    obtain ⟨i, A, c, hi, rfl, rfl, HI⟩ := hrel
    have hi0 : (0 : Int) ≤ (i : Int) := Int.natCast_nonneg _
    by_cases hlt : i < L
    · have hlt' : (i : Int) < (L : Int) := by omega
      have hal : Below wr.heap.size wr (wr.alloc (.cells #[.int .i64 1] 3)) := (Below.refl _ _).alloc (Nat.le_refl _) _
      obtain ⟨A', c', w3, hr, ho, hg, hw⟩ := run_append_ints 36 36 Tryz.underlying36 (wr.alloc (.cells #[.int .i64 1] 3)) w2.heap.size (.slice A (i + 1) c) _ (2 :: List.replicate i 1) [1] (owns_below HI.out.1 hal) (ints_one wr 1 (by omega)) (by simp; omega) (by simp) (Nat.le_trans HI.out.2.2.2.size hal.size)
      have hE : (2 :: List.replicate i (1 : Int)) ++ [1] = 2 :: List.replicate (i + 1) 1 := by rw [List.cons_append, rep_snoc]
      have hE2 : (2 :: List.replicate (i + 1) (1 : Int)).length = i + 1 + 1 := by simp
      rw [hE] at hr ho hw
      rw [hE2] at hr hw
      have hsl : sb < wr.heap.size := (Array.getElem?_eq_some_iff.1 HI.out.2.1).1
      have hal2 := hal.size
      have HN : Hid (OwnI w2.heap.size w3 (.slice A' (i + 1 + 1) c') (2 :: List.replicate (i + 1) 1) ∧ w3.heap[sb]? = some (.cells #[] 3 (0, 0)) ∧ (Value.slice A' (i + 1 + 1) c').ownBlock ≠ some sb ∧ Below w2.heap.size w2 w3) := Lib.hid ⟨by
          have h := ho
          rw [hE2] at h
          exact h, (hg.block sb (Nat.lt_of_lt_of_le hsl hal2) fun e => HI.out.2.2.1 e.symm).trans ((hal.block sb hsl).trans HI.out.2.1), (fun e => by
        rcases hw with h | ⟨r, h, hr⟩
        · rw [h] at e; exact HI.out.2.2.1 e
        · rw [h] at e
          have := Option.some.inj e
          omega), (HI.out.2.2.2.trans (hal.mono HI.out.2.2.2.size)).grown hg (Nat.le_trans HI.out.2.2.2.size hal2) fun r hr => (owns_block (owns_below HI.out.1 hal) r hr).1⟩
      have HR := Lib.hid hr
      clear hal hr ho hg hw hE hE2 hsl hal2 HI
      go_wp2_with ((with_reducible refine wpList_sel 30 ?_); refine wpList_val rfl (r_app (.tmp 28) (.tmp 29) 36 rfl rfl rfl HR.out) ?_)
      go_roundw
      case rel => exact ⟨i + 1, A', c', by omega, by go_num, rfl, HN⟩
      case measure => simp [intOf]; omega
    · obtain rfl : L = i := by omega
      clear hlt
      go_wp2_with fail
      have HST2 : Hid (OwnI w2.heap.size wr (.slice (some ⟨sb, 0, none⟩) 0 0) (List.replicate 0 2) ∧ OwnI w2.heap.size wr (.slice A (L + 1) c) (2 :: List.replicate L 1) ∧ (∀ r, (Value.slice A (L + 1) c).ownBlock = some r → (Value.slice (some ⟨sb, 0, none⟩) 0 0).ownBlock ≠ some r) ∧ Below w2.heap.size w2 wr) := Lib.hid ⟨own_empty35 HSB.out HI.out.2.1, HI.out.1, fun r hr e => HI.out.2.2.1 (hr.trans (congrArg some (Option.some.inj e).symm)), HI.out.2.2.2⟩
      clear HI
      go_loopw [6, 8] (fun v6 v8 wr => ∃ (j : Nat) (B : Option Addr) (b : Nat), j ≤ k ∧ v8 = .int .i64 (j : Int) ∧ v6 = .slice B j b ∧ Hid (OwnI w2.heap.size wr (.slice B j b) (List.replicate j 2) ∧ OwnI w2.heap.size wr (.slice A (L + 1) c) (2 :: List.replicate L 1) ∧ (∀ r, (Value.slice A (L + 1) c).ownBlock = some r → (Value.slice B j b).ownBlock ≠ some r) ∧ Below w2.heap.size w2 wr)) (fun _ v8 _ => k - (intOf v8).toNat)
      case atStart => exact ⟨0, _, _, Nat.zero_le _, rfl, rfl, HST2⟩
      case round =>
        clear HST2
        obtain ⟨j, B, b, hj, rfl, rfl, HJ⟩ := hrel
        have hj0 : (0 : Int) ≤ (j : Int) := Int.natCast_nonneg _
        by_cases hlt : j < k
        · have hlt' : (j : Int) < (k : Int) := by omega
          have hal : Below wr.heap.size wr (wr.alloc (.cells #[.int .i64 2] 3)) := (Below.refl _ _).alloc (Nat.le_refl _) _
          have hJl : (List.replicate j (2 : Int)).length = j := by simp
          have hJ1 : OwnI w2.heap.size (wr.alloc (.cells #[.int .i64 2] 3)) (.slice B j b) (List.replicate j 2) := owns_below HJ.out.1 hal
          obtain ⟨B', b', w3, hr, ho, hg, hw⟩ := run_append_ints 36 36 Tryz.underlying36 (wr.alloc (.cells #[.int .i64 2] 3)) w2.heap.size (.slice B j b) _ (List.replicate j 2) [2] hJ1 (ints_one wr 2 (by omega)) (by simp; omega) (by simp) (Nat.le_trans HJ.out.2.2.2.size hal.size)
          have hE2 : (List.replicate (j + 1) (2 : Int)).length = j + 1 := by simp
          rw [rep_snoc] at hr ho hw
          rw [hE2] at hr hw
          have hal2 := hal.size
          have HN : Hid (OwnI w2.heap.size w3 (.slice B' (j + 1) b') (List.replicate (j + 1) 2) ∧ OwnI w2.heap.size w3 (.slice A (L + 1) c) (2 :: List.replicate L 1) ∧ (∀ r, (Value.slice A (L + 1) c).ownBlock = some r → (Value.slice B' (j + 1) b').ownBlock ≠ some r) ∧ Below w2.heap.size w2 w3) := Lib.hid ⟨by
              have h := ho
              rw [hE2] at h
              exact h, owns_keep HJ.out.2.1 (fun r hr => (hg.block r (Nat.lt_of_lt_of_le (owns_lt HJ.out.2.1 hr) hal2) fun e => HJ.out.2.2.1 r hr e.symm).trans (hal.block r (owns_lt HJ.out.2.1 hr))), (fun r hr e => by
            rcases hw with h | ⟨q, h, hq⟩
            · rw [h] at e; exact HJ.out.2.2.1 r hr e
            · rw [h] at e
              have := Option.some.inj e
              have := owns_lt HJ.out.2.1 hr
              omega), (HJ.out.2.2.2.trans (hal.mono HJ.out.2.2.2.size)).grown hg (Nat.le_trans HJ.out.2.2.2.size hal2) fun r hr => (owns_block hJ1 r hr).1⟩
          have HR := Lib.hid hr
          clear hal hr ho hg hw hE2 hJl hJ1 hal2 HJ
          go_wp2_with ((with_reducible refine wpList_sel 38 ?_); refine wpList_val rfl (r_app (.tmp 36) (.tmp 37) 36 rfl rfl rfl HR.out) ?_)
          go_roundw
          case rel => exact ⟨j + 1, B', b', by omega, by go_num, rfl, HN⟩
          case measure => simp [intOf]; omega
        · obtain rfl : k = j := by omega
          clear hlt
          obtain ⟨M, hM⟩ : ∃ M : Nat, (L : Int) * (k : Int) = (M : Int) := ⟨L * k, (Int.natCast_mul L k).symm⟩
          have hMn : L * k = M := by
            have := Int.natCast_mul L k
            omega
          have hM5 : M ≤ 1010 * 5 := by
            rw [← hMn]
            exact Nat.mul_le_mul (by omega) (by omega)
          have hM0 : (0 : Int) ≤ (M : Int) := Int.natCast_nonneg _
          have hM1 : (M : Int) ≤ 5050 := by omega
          obtain ⟨x, m, R, I, hel, hx⟩ := elim_longs L k (by omega) (by omega)
          rw [hMn] at hx
          have hx2 : (x = 0 ∧ (L : Int) ≤ 1000 ∧ (M : Int) ≤ 4000) ∨ (x = 4 ∧ ¬ (L : Int) ≤ 1000) ∨ (x = 4 ∧ (L : Int) ≤ 1000 ∧ decide ((M : Int) ≤ 4000) = false) := by
            rw [decide_eq_false_iff_not]
            omega
          have HEL := Lib.hid hel
          unfold EP at HEL
          clear hx hel hM5 hMn
          obtain ⟨w3, hw3⟩ : ∃ w3, w3 = (wr.alloc (.cells #[.slice A (L + 1) c, .slice B k b] 36)).alloc (.cells #[.int .i64 2, .slice (some ⟨wr.heap.size, 0, none⟩) 2 2] 24) := ⟨_, rfl⟩
          obtain ⟨pq, hpq⟩ : ∃ pq, pq = wr.heap.size + 1 := ⟨_, rfl⟩
          have HP3 : Hid (w3.heap[pq]? = some (.cells #[.int .i64 2, .slice (some ⟨wr.heap.size, 0, none⟩) 2 2] 24 (0, 0))) := Lib.hid (by
            rw [hw3, hpq]
            have := heap_alloc_new (wr.alloc (.cells #[.slice A (L + 1) c, .slice B k b] 36)) (.cells #[.int .i64 2, .slice (some ⟨wr.heap.size, 0, none⟩) 2 2] 24); rwa [World.size_alloc] at this)
          have hb3 : Below wr.heap.size wr w3 := by rw [hw3]; exact ((Below.refl _ _).alloc (Nat.le_refl _) _).alloc (by simp) _
          have hrow : w3.heap[wr.heap.size]? = some (.cells [Value.slice A (L + 1) c, Value.slice B k b].toArray 36 (0, 0)) := by rw [hw3]; exact (Below.heap_alloc _ _ _ (by simp)).trans (heap_alloc_new wr _)
          have hf1 : Fits (2 :: List.replicate L 1) := fun y hy => by
            rcases List.mem_cons.1 hy with rfl | h
            · omega
            · rw [List.eq_of_mem_replicate h]; omega
          have hf2 : Fits (List.replicate k 2) := fun y hy => by rw [List.eq_of_mem_replicate hy]; omega
          have HR3 : Hid (Tab w3 (.slice (some ⟨wr.heap.size, 0, none⟩) 2 2) (longP L k)) := Lib.hid (tab_blk (us := [Value.slice A (L + 1) c, Value.slice B k b]) (xs := longP L k) hrow rfl rfl (by simp) (fun i hi => by
            have h2 : i = 0 ∨ i = 1 := by simp [longP] at hi; omega
            rcases h2 with rfl | rfl
            · exact (OwnI.ints HJ.out.2.1 hf1).below hb3
            · exact (OwnI.ints HJ.out.1 hf2).below hb3))
          have HB3 : Hid (Below w2.heap.size w2 w3) := Lib.hid (HJ.out.2.2.2.trans (hb3.mono HJ.out.2.2.2.size))
          have HW3 := Lib.hid hw3
          have HPQ := Lib.hid hpq
          clear hw3 hpq hb3 hrow hf1 hf2 HJ
          rcases hx2 with ⟨rfl, hL2, hM2⟩ | ⟨rfl, hL2⟩ | ⟨rfl, hL2, hM2⟩
          all_goals
            go_wp2_with (first
              | ((with_reducible refine wpList_sel 42 ?_); refine wpList_val rfl (r_build24_2 (.const (.int .i64 2)) (.tmp 41) 2 (some ⟨wr.heap.size, 0, none⟩) 2 2 rfl rfl rfl) ?_)
              | ((with_reducible refine wpList_sel 44 ?_); rw [← HW3.out, ← HPQ.out]; refine wpList_val rfl (r_loadAt 24 (.tmp 9) _ _ rfl rfl (load40 HP3.out)) ?_))
            refine (HEL.out w3 _ HR3.out).1.mono ?_
            rintro e w4 ⟨⟨A4, c4, B4, d4, rfl, ht, hi⟩, hb⟩
            obtain ⟨w5, hw5⟩ : ∃ w5, w5 = w4.alloc (.cells #[.int .i64 m, .slice A4 R.length c4] 24) := ⟨_, rfl⟩
            have hb5 : Below w4.heap.size w4 w5 := by rw [hw5]; exact (Below.refl _ _).alloc (Nat.le_refl _) _
            obtain ⟨q1, hq1⟩ : ∃ q1, q1 = w4.heap.size := ⟨_, rfl⟩
            have HX5 : Hid (w5.heap[q1]? = some (.cells #[.int .i64 m, .slice A4 R.length c4] 24 (0, 0))) := Lib.hid (by rw [hw5, hq1]; exact heap_alloc_new w4 _)
            have hb35 := hb.trans (hb5.mono hb.size)
            have HB5 := Lib.hid (HB3.out.trans (hb35.mono HB3.out.size))
            have HP5 := Lib.hid ((hb35.block _ (Array.getElem?_eq_some_iff.1 HP3.out).1).trans HP3.out)
            have HR5 := Lib.hid (kept_tab.below HR3.out hb35)
            have HT5 := Lib.hid (kept_tab.below ht hb5)
            have HI5 := Lib.hid (kept_tab.below hi hb5)
            have HW5 := Lib.hid hw5
            have HQ1 := Lib.hid hq1
            clear ht hi hb hb5 hb35 hw5 hq1 HB3 HP3 HR3
            go_wp2_with ((with_reducible refine wpList_sel 50 ?_); rw [← HW5.out, ← HQ1.out]; refine wpList_val rfl (r_loadAt 24 (.tmp 9) _ _ rfl rfl (load40 HP5.out)) ?_)
            refine (HEL.out w5 _ HR5.out).2.mono ?_
            rintro e w6 ⟨⟨A6, c6, B6, d6, rfl, ht, hi⟩, hb⟩
            obtain ⟨w7, hw7⟩ : ∃ w7, w7 = w6.alloc (.cells #[.int .i64 m, .slice A6 R.length c6] 24) := ⟨_, rfl⟩
            have hb7 : Below w6.heap.size w6 w7 := by rw [hw7]; exact (Below.refl _ _).alloc (Nat.le_refl _) _
            obtain ⟨q2, hq2⟩ : ∃ q2, q2 = w6.heap.size := ⟨_, rfl⟩
            have HX7 : Hid (w7.heap[q2]? = some (.cells #[.int .i64 m, .slice A6 R.length c6] 24 (0, 0))) := Lib.hid (by rw [hw7, hq2]; exact heap_alloc_new w6 _)
            have hb57 := hb.trans (hb7.mono hb.size)
            have HB7 := Lib.hid (HB5.out.trans (hb57.mono HB5.out.size))
            have HX57 := Lib.hid ((hb57.block _ (Array.getElem?_eq_some_iff.1 HX5.out).1).trans HX5.out)
            have HC13 := Lib.hid (same26_any w7 _ _ m m R R (kept_tab.below HT5.out hb57) (kept_tab.below ht hb7))
            have HI57 := Lib.hid (kept_tab.below HI5.out hb57)
            have HI7 := Lib.hid (kept_tab.below hi hb7)
            have HW7 := Lib.hid hw7
            have HQ2 := Lib.hid hq2
            clear ht hi hb hb7 hb57 hw7 hq2 HB5 HP5 HR5 HT5 HI5 HX5 HEL
            go_wp2_with (first
              | ((with_reducible refine wpList_sel 59 ?_); rw [← HW7.out, ← HQ2.out]; refine wpList_valG (by rfl) (r_loadAt 24 (.tmp 10) _ _ rfl rfl (load40 HX57.out)) ?_)
              | ((with_reducible refine wpList_sel 60 ?_); refine wpList_valG (by rfl) (r_loadAt 24 (.tmp 13) _ _ rfl rfl (load40 HX7.out)) ?_))
            refine HC13.out.mono ?_
            rintro e w8 ⟨he8, hb⟩
            have he8' := he8.trans (ret_bool (by simp) : Ending.returned (.bool _) = .returned (.bool true))
            subst he8'
            have HB8 := Lib.hid (HB7.out.trans (hb.mono HB7.out.size))
            have HC14 := Lib.hid (equal8_any w8 _ _ I I (kept_tab.below HI57.out hb) (kept_tab.below HI7.out hb))
            clear hb he8 HC13 HB7 HI57 HI7 HX57 HX7
            go_wp2_with fail
            refine HC14.out.mono ?_
            rintro e w9 ⟨he9, hb⟩
            have he9' := he9.trans (ret_bool (by simp) : Ending.returned (.bool _) = .returned (.bool true))
            subst he9'
            have HB9 := Lib.hid (HB8.out.trans (hb.mono HB8.out.size))
            clear hb he9 HC14 HB8
            go_wp2_with fail
            refine (awake12_any _).mono ?_
            rintro e w10 ⟨rfl, hb⟩
            have HB10 := Lib.hid (HB9.out.trans (hb.mono HB9.out.size))
            clear hb
            go_wp2_with fail
            go_ret
            exact ⟨rfl, HB10.out⟩
end Go.Proofs
namespace Go.Proofs
open Go.RowKit Go.ChangeShapes Go.WideShapes Go.ChangeAt Go.Deep
section
variable {H : Type} {enc : TypeId × Value → H} {W : World}
theorem wf_fits {x : Int} (h : (Lit.int .i64 x).wf = true) : -9223372036854775808 ≤ x ∧ x ≤ 9223372036854775807 := by
  simpa [Lit.wf, IntKind.min, IntKind.max, IntKind.signed, IntKind.bits] using h
end
end Go.Proofs
