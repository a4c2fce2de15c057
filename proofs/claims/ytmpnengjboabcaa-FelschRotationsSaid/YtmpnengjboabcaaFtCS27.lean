/- The walk of FelschRotations; Arguments opened: lists of numbers, tables, presentations; Closed facts of the program (A); Closed facts of the program (B); Closed facts of the program (C); Closed facts of the program (D); The closed facts of a statement, one by one. -/
import Derived.Test.YtmpnengjboabcaaFtCS26
import Derived.Test.YtmpnengjboabcaaFtCS3
import Derived.ProofKit
import Derived.Deep.Slices
import Derived.Deep.Strs
import Derived.Test.YtmpnengjboabcaaRows
import Derived.Test.YtmpnengjboabcaaChecked
import Derived.OpenShut
import Derived.JoinedOf
namespace Go.Proofs
open Go.RowKit Go.Shelf Go.Proofs.Ct Go.Maps
theorem getD_memI {v : List Int} {j : Nat} (hj : j < v.length) : v.getD j 0 ∈ v := by
  rw [List.getD_eq_getElem?_getD, List.getElem?_eq_getElem hj]
  exact List.getElem_mem hj
theorem allIn_len (w : W) (l : List W) (k : Nat) : (allIn w l k).length = l.length + 2 * k := by
  induction k with
  | zero => rfl
  | succ k ih =>
    rw [show allIn w l (k + 1) = allIn w l k ++ [rot w k, rot (inv w) k] from rfl, List.length_append, ih]
    simp only [List.length_cons, List.length_nil]
    omega
theorem allTo_len {rels : List W} (h : ∀ j, (rels.getD j []).length ≤ 100) (k : Nat) : (allTo rels k).length ≤ 200 * k := by
  induction k with
  | zero => exact Nat.le_refl _
  | succ k ih =>
    rw [show allTo rels (k + 1) = allIn (rels.getD k []) (allTo rels k) (rels.getD k []).length from rfl, allIn_len]
    have := h k
    omega
set_option maxRecDepth 100000 in
set_option maxHeartbeats 4000000 in
theorem felschRotations16_any (w : World) (which : Int) (vl : Value) (l : List Int) (lt : Int) (hl : IntsAt w vl l) (hw : -9223372036854775808 ≤ which ∧ which ≤ 9223372036854775807) :
    Calls Try.prog 16 #[.int .i64 which, vl, .int .i64 lt] w fun e w' => e = .returned (.bool true) ∧ Below w.heap.size w w' := by
  obtain ⟨Al, cl, rfl, -, -, -⟩ := hl.open_
  have HL := Lib.hid hl
  have hl0 : (0 : Int) ≤ (l.length : Int) := Int.natCast_nonneg _
  have HW := Lib.hid hw
  clear hl hw
  by_cases a1 : 40 < (l.length : Int)
  · go_enter Try.func16, Try.ntmps16
    go_wp2_with fail
    refine (felschKnown19_any _).mono ?_
    rintro e v1 ⟨rfl, hb⟩
    have HB1 := Lib.hid hb
    clear hb
    go_wp2_with fail
    go_ret
    exact ⟨rfl, HB1.out⟩
  have a1' : (l.length : Int) ≤ 40 := by omega
  clear a1
  obtain ⟨g, hg0, hg1, hg2, hg4, -, hp, -⟩ := args_ok which l []
  obtain ⟨zc, hzc, hz2⟩ : ∃ zc : Nat, lt % (2 * (g : Int)) = (zc : Int) ∧ zc < 2 * g := by
    have h1 := Int.emod_nonneg lt (show (2 * (g : Int)) ≠ 0 by omega)
    have h2 := Int.emod_lt_of_pos lt (show (0 : Int) < 2 * (g : Int) by omega)
    exact ⟨(lt % (2 * (g : Int))).toNat, by omega, by omega⟩
  obtain ⟨hx1, hx2, hx3⟩ := letter_range hz2
  have HT67 : Hid (∀ W : World, Calls Try.prog 67 #[.int .i64 lt, .int .i64 (2 * (g : Int))] W fun e w' => e = .returned (.int .i64 (zc : Int)) ∧ w' = W) := Lib.hid fun W => by
    have h := turn59_any W lt (2 * g) (by omega)
    rw [show ((2 * g : Nat) : Int) = 2 * (g : Int) by omega] at h
    rwa [hzc] at h
  have HL69 : Hid (∀ W : World, Calls Try.prog 69 #[.int .i64 (zc : Int)] W fun e w' => e = .returned (.int .i64 (letter zc)) ∧ w' = W) := Lib.hid fun W => letter61_any W zc (by omega)
  generalize hx : letter zc = x at *
  have hok : wordsE g (givenP 6 which l).2 x = (wordsX (givenP 6 which l).2 x, 0) := by
    unfold wordsE
    rw [if_neg (by rw [hp]; simp), if_neg (by omega)]
  have hgl := wordsE_len (g := g) (x := x) (rels := (givenP 6 which l).2) (fun j => by have := hg4.short j; omega) (by have := hg4.len; omega)
  rw [hok] at hgl
  have H80 : Hid (∀ (W : World) (vr : Value), Tab W vr (givenP 6 which l).2 → Calls Try.prog 80 #[.agg #[.int .i64 g, vr], .int .i64 x] W fun e w' => (∃ A c, e = .returned (.tuple #[.slice A (wordsX (givenP 6 which l).2 x).length c, .int .i64 0]) ∧ Tab w' (.slice A (wordsX (givenP 6 which l).2 x).length c) (wordsX (givenP 6 which l).2 x)) ∧ Below W.heap.size W w') := Lib.hid fun W vr hr =>
    (words80_any W vr _ g x hr (by omega) (by omega) (fun j => by have := hg4.short j; omega)).mono fun e w' (⟨⟨A, c, h1, h2⟩, h3⟩ : WordsEPost _ _ _ W e w') => by
      rw [hok] at h1 h2
      exact ⟨⟨A, c, h1, h2.at_⟩, h3⟩
  have HLAW := Lib.hid (rotations_law (givenP 6 which l).2 x)
  have HG : Hid (∀ W, Below w.heap.size w W → Calls Try.prog 83 #[.int .i64 which, .slice Al l.length cl] W fun e w' => (∃ A c, e = .returned (.agg #[.int .i64 (g : Int), .slice A (givenP 6 which l).2.length c]) ∧ Tab w' (.slice A (givenP 6 which l).2.length c) (givenP 6 which l).2) ∧ Below W.heap.size W w') := Lib.hid fun W h => by
    rw [← hg0]
    exact given83_any W which _ l (HL.out.below h) (by omega) HW.out
  have hrn : (givenP 6 which l).2.length ≤ 100 := by have := hg4.len; omega
  have HRL : Hid (∀ j, ((givenP 6 which l).2.getD j []).length ≤ 100) := Lib.hid fun j => by have := hg4.short j; omega
  have HRM : Hid (∀ j, ∀ z ∈ (givenP 6 which l).2.getD j [], Mild z) := Lib.hid fun j z hz => by
    rcases Nat.lt_or_ge j (givenP 6 which l).2.length with h | h
    · have h1 := hg4.ok j h z hz
      unfold Mild
      omega
    · rw [List.getD_eq_getElem?_getD, List.getElem?_eq_none h] at hz
      cases hz
  clear hg0 hg4 hp hok hzc hz2 hx
  generalize hX : wordsX (givenP 6 which l).2 x = got at *
  generalize (givenP 6 which l).2 = rels at *
  have HX := Lib.hid hX
  clear hX
  replace hgl : got.length ≤ 1000000 := hgl
  have hgI : (got.length : Int) ≤ 1000000 := by omega
  have hg0 : (0 : Int) ≤ (got.length : Int) := Int.natCast_nonneg _
  have hrI : (rels.length : Int) ≤ 100 := by omega
  have hr0 : (0 : Int) ≤ (rels.length : Int) := Int.natCast_nonneg _
  go_enter Try.func16, Try.ntmps16
  go_wp2_with fail
  refine (felschKnown19_any _).mono ?_
  rintro e v1 ⟨rfl, hb⟩
  have HB1 := Lib.hid hb
  clear hb
  go_wp2_with fail
  refine (HG.out _ HB1.out).mono ?_
  rintro e v2 ⟨⟨A2, c2, rfl, ht⟩, hb⟩
  have HB2 := Lib.hid (bl3 HB1.out hb)
  have HT2 := Lib.hid ht
  clear ht hb
  have hld : ∀ V, Below (v2.alloc (.cells #[.int .i64 (g : Int), .slice A2 rels.length c2] 40)).heap.size (v2.alloc (.cells #[.int .i64 (g : Int), .slice A2 rels.length c2] 40)) V → V.cell? ⟨v2.heap.size, 0, none⟩ = some (.int .i64 (g : Int)) ∧ V.cell? ⟨v2.heap.size, 1, none⟩ = some (.slice A2 rels.length c2) := fun V h => cell_of2 ((h.block _ (by simp)).trans (heap_alloc_new v2 _))
  have HLD := Lib.hid hld
  have hal := (Below.refl v2.heap.size v2).alloc (Nat.le_refl _) (.cells #[.int .i64 (g : Int), .slice A2 rels.length c2] 40)
  have HT3 := Lib.hid (kept_tab.below HT2.out hal)
  have HB3 := Lib.hid (bl3 HB2.out hal)
  clear hal hld
  go_wp2_with fail
  generalize hw3 : v2.alloc (.cells #[.int .i64 (g : Int), .slice A2 rels.length c2] 40) = v3 at *
  generalize v2.heap.size = B at *
  refine (HT67.out _).mono ?_
  rintro e v4 ⟨rfl, rfl⟩
  go_wp2_with fail
  refine (HL69.out _).mono ?_
  rintro e v5 ⟨rfl, rfl⟩
  obtain ⟨d0, d1⟩ := HLD.out _ (Below.refl _ _)
  go_wp2_with fail
  refine (H80.out _ _ HT3.out).mono ?_
  rintro e v6 ⟨⟨A6, c6, rfl, ht⟩, hb⟩
  have HT6 := Lib.hid ht
  have HR6 := Lib.hid hb
  have HB6 := Lib.hid (bl3 HB3.out hb)
  have HTR := Lib.hid (kept_tab.below HT3.out hb)
  obtain ⟨e0, e1⟩ := HLD.out _ hb
  clear d0 d1 ht hb hw3 HG HT67 HL69 H80 HB1 HB2 HT2 HT3
  have HLD6 : Hid (∀ W, Below v6.heap.size v6 W → W.cell? ⟨B, 0, none⟩ = some (.int .i64 (g : Int)) ∧ W.cell? ⟨B, 1, none⟩ = some (.slice A2 rels.length c2)) := Lib.hid fun W h => HLD.out _ (bl3 HR6.out h)
  clear HLD HR6
  go_wp2_with fail
  go_loopw [11, 12] (fun vo i wr => ∃ (k : Nat) (A : Option Addr) (c : Nat), i = .int .i64 (k : Int) ∧ k ≤ rels.length ∧ vo = .slice A (allTo rels k).length c ∧ Hid (AllSt v6 wr (fun _ => False) vo (allTo rels k))) (fun _ i _ => rels.length - (intOf i).toNat)
  case atStart => exact ⟨0, none, 0, rfl, Nat.zero_le _, rfl, Lib.hid (AllSt.nil v6 _)⟩
  case round =>
    obtain ⟨k, AL, cL, rfl, hk, rfl, HS⟩ := hrel
    obtain ⟨w7, rfl⟩ : ∃ w7, w7 = wr := ⟨_, rfl⟩
    have hk0 : (0 : Int) ≤ (k : Int) := Int.natCast_nonneg _
    have HBW : Hid (Below v6.heap.size v6 w7) := Lib.hid (by obtain ⟨O, h, -⟩ := HS.out; exact h)
    clear e0 e1
    obtain ⟨e0, e1⟩ := HLD6.out _ HBW.out
    by_cases hlt : k < rels.length
    · have hkI : (k : Int) < (rels.length : Int) := by omega
      obtain ⟨br, or_, rfl, hcl⟩ := HTR.out.cells (by omega)
      obtain ⟨up, hup, hip⟩ := hcl k hlt
      obtain ⟨Aw, cw, rfl, hcw, -, -⟩ := hip.open_
      have hck := (HBW.out.cell (p := ⟨br, or_ + k, none⟩) (World.block_lt_of_cell? v6 _ hup)).trans hup
      have HWD := Lib.hid hip
      have hwl := HRL.out k
      have HMI : Hid (∀ j, j < (rels.getD k []).length → -4611686018427387903 ≤ (rels.getD k []).getD j 0 ∧ (rels.getD k []).getD j 0 ≤ 4611686018427387903) := Lib.hid fun j hj => by
        have h1 : Mild ((rels.getD k []).getD j 0) := HRM.out k _ (getD_memI hj)
        exact h1
      have HYE : Hid (inv (rels.getD k []) = inv (rels.getD k [])) := Lib.hid rfl
      have HYL : Hid ((inv (rels.getD k [])).length = (rels.getD k []).length) := Lib.hid (length_inv _)
      have HFY : Hid (Fits (inv (rels.getD k []))) := Lib.hid fun z hz => by
        obtain ⟨y, hy, rfl⟩ := List.mem_map.1 hz
        have h1 := HRM.out k y (List.mem_reverse.1 hy)
        unfold Mild at h1
        show -9223372036854775808 ≤ -y ∧ -y ≤ 9223372036854775807
        omega
      have HTS : Hid (∀ m, m < (rels.getD k []).length → (inv (rels.getD k [])).take (m + 1) = (inv (rels.getD k [])).take m ++ [-((rels.getD k []).getD ((rels.getD k []).length - 1 - m) 0)]) := Lib.hid fun m hm => by
        rw [take_snocI _ (by rw [length_inv]; exact hm), inv_getD hm]
      have HT1 : Hid (allTo rels (k + 1) = allIn (rels.getD k []) (allTo rels k) (rels.getD k []).length) := Lib.hid rfl
      have HLL : Hid ((allTo rels k).length ≤ 20000) := Lib.hid (by have := allTo_len (rels := rels) (fun j => HRL.out j) k; omega)
      have hwl0 : (0 : Int) ≤ ((rels.getD k []).length : Int) := Int.natCast_nonneg _
      have hwl1 : ((rels.getD k []).length : Int) ≤ 100 := by omega
      clear hip hup hcl
      generalize rels.getD k [] = wd at *
      generalize hy : inv wd = ys at HYE HYL HFY HTS
      generalize allTo rels k = L at *
      replace HYE : Hid (inv wd = ys) := Lib.hid hy
      clear hy
      go_wp2_with fail
      go_loopw [14, 15] (fun o i wi => ∃ (m : Nat) (A : Option Addr) (c : Nat) (j : Int), i = .int .i64 j ∧ j = (wd.length : Int) - 1 - m ∧ m ≤ wd.length ∧ o = .slice A m c ∧ Hid (OwnI w7.heap.size wi (.slice A m c) (ys.take m)) ∧ Hid (Below w7.heap.size w7 wi)) (fun _ i _ => (intOf i + 1).toNat)
      case atStart => exact ⟨0, none, 0, _, rfl, by omega, Nat.zero_le _, rfl, Lib.hid (World.ownsRow_nil _ _ _ _), Lib.hid (Below.refl _ _)⟩
      case round =>
        obtain ⟨m, Am, cm, j, rfl, hj, hm, rfl, HO, HB⟩ := hrel
        obtain ⟨w8, rfl⟩ : ∃ w8, w8 = wr := ⟨_, rfl⟩
        by_cases hml : m < wd.length
        · obtain ⟨jn, rfl⟩ : ∃ jn : Nat, j = (jn : Int) := ⟨wd.length - 1 - m, by omega⟩
          have hjn : jn = wd.length - 1 - m := by omega
          have hj0 : (0 : Int) ≤ (jn : Int) := Int.natCast_nonneg _
          have hj1 : (jn : Int) < (wd.length : Int) := by omega
          have hwi := HWD.out.below (bl3 HBW.out HB.out)
          obtain ⟨A', c', e', -, -, hcc⟩ := hwi.open_
          obtain ⟨rfl, -, rfl⟩ := Value.slice.inj e'
          obtain ⟨bb, ob, rfl, hcd⟩ := hcc (by omega)
          have hck := hcd jn (by omega)
          obtain ⟨hm1, hm2⟩ := HMI.out jn (by omega)
          have htk : (ys.take m).length = m := by rw [List.length_take, HYL.out]; omega
          obtain ⟨A', c', w', hr, ho, hg, hw⟩ := push_int 25 25 Try.underlying25 w8 w7.heap.size _ _ HO.out (-(wd.getD jn 0)) (by rw [htk]; omega) HB.out.size
          rw [htk] at hr ho
          have hts := HTS.out m hml
          rw [← hjn] at hts
          rw [← hts] at ho
          have HR := Lib.hid hr
          have HO2 := Lib.hid ho
          have HB2 := Lib.hid (HB.out.grown hg HB.out.size (fun r hr => (owns_block HO.out r hr).1))
          have HJN : Hid ((jn : Int) = (wd.length : Int) - 1 - m) := Lib.hid hj
          clear hcc hcd hwi hr ho hg hw hts hjn hj htk e'
          generalize wd.getD jn 0 = z at *
          go_wp2_with ((with_reducible refine wpList_sel 67 ?_); refine wpList_val rfl (r_app (.tmp 60) (.tmp 66) 25 rfl rfl rfl HR.out) ?_)
          go_roundw
          case rel => exact ⟨m + 1, A', c', _, rfl, by have := HJN.out; omega, by omega, rfl, HO2, HB2⟩
          case measure => simp [intOf]
        · obtain rfl : m = wd.length := by omega
          have hjm : j = -1 := by omega
          subst hjm
          have HO3 : Hid (OwnI w7.heap.size w8 (.slice Am wd.length cm) ys) := Lib.hid (by
            have h := HO.out
            rwa [List.take_of_length_le (by rw [HYL.out]; omega)] at h)
          have HS3 : Hid (AllSt v6 w8 (fun r => (Value.slice Am wd.length cm).ownBlock = some r) (.slice AL L.length cL) (allIn wd L 0)) := Lib.hid (by
            obtain ⟨O, h1, h2, h3⟩ := HS.out.keep HB.out
            obtain ⟨O', k1, k2, k3⟩ := HS.out
            refine (show AllSt v6 w8 _ _ L from ⟨O', bl3 k1 HB.out, FP.keep rfl k1 (bl3 k1 HB.out) HB.out.size (fun k hk => HB.out.block k (k3 k hk).2.1) k2, fun k hk => ⟨(k3 k hk).1, Nat.lt_of_lt_of_le (k3 k hk).2.1 HB.out.size, fun h => ?_⟩⟩)
            have := (owns_block HO3.out k h).1
            have := (k3 k hk).2.1
            omega)
          clear hml hj HO
          generalize Am = Ab at *
          generalize cm = cb at *
          go_wp2_with fail
          go_loopw [11, 16] (fun vo j wz => ∃ (q : Nat) (A : Option Addr) (c : Nat), j = .int .i64 (q : Int) ∧ q ≤ wd.length ∧ vo = .slice A (allIn wd L q).length c ∧ Hid (AllSt v6 wz (fun r => (Value.slice Ab wd.length cb).ownBlock = some r) vo (allIn wd L q)) ∧ Hid (OwnI w7.heap.size wz (.slice Ab wd.length cb) ys)) (fun _ j _ => wd.length - (intOf j).toNat)
          case atStart => exact ⟨0, AL, cL, rfl, Nat.zero_le _, rfl, HS3, HO3⟩
          case round =>
            obtain ⟨q, AJ, cJ, rfl, hq, rfl, HSJ, HOJ⟩ := hrel
            obtain ⟨w9, rfl⟩ : ∃ w9, w9 = wr := ⟨_, rfl⟩
            have hq0 : (0 : Int) ≤ (q : Int) := Int.natCast_nonneg _
            by_cases hql : q < wd.length
            · have hqI : (q : Int) < (wd.length : Int) := by omega
              obtain ⟨IO, ho1, ho2, ho3⟩ := HSJ.out
              have HBJ := Lib.hid ho1
              have HOT := Lib.hid ho2
              have HIO : Hid (∀ k, IO k → k < w9.heap.size) := Lib.hid fun k hk => (ho3 k hk).2.1
              have HIO2 : Hid (∀ k, IO k → v6.heap.size ≤ k) := Lib.hid fun k hk => (ho3 k hk).1
              have hcb : wd.length ≤ cb := by
                have h := (OwnI.ints HOJ.out HFY.out)
                obtain ⟨A', c', e', h1, h2, -⟩ := h.open_
                rw [HYL.out] at h1
                obtain ⟨-, -, rfl⟩ := Value.slice.inj e'
                exact h1
              have hib : ∀ W, KpI IO v6 w9 W → IntsAt W (.slice Ab ys.length cb) ys := fun W hW => by
                have h1 := IntsF.of_own HOJ.out HFY.out
                rw [HYL.out]
                refine h1 W fun k hk => ?_
                exact hW.2.2 k (owns_lt HOJ.out hk) fun hIO => (ho3 k hIO).2.2 hk
              obtain ⟨A1, hv1, hi1⟩ := ints_sliced (k := q) (h := wd.length) HWD.out (by omega) (Nat.le_refl _)
              obtain ⟨A2, hv2, hi2⟩ := ints_sliced (k := 0) (h := q) HWD.out (by omega) (by omega)
              obtain ⟨A3, hv3, -⟩ := ints_sliced (k := q) (h := ys.length) (hib _ (KpI.refl ho1)) (by rw [HYL.out]; omega) (Nat.le_refl _)
              obtain ⟨A4, hv4, -⟩ := ints_sliced (k := 0) (h := q) (hib _ (KpI.refl ho1)) (by omega) (by rw [HYL.out]; omega)
              have HSL : Hid (∀ W, KpI IO v6 w9 W → IntsAt W (.slice A1 (wd.length - q) (cw - q)) (wd.drop q) ∧ IntsAt W (.slice A2 q cw) (wd.take q) ∧ IntsAt W (.slice A3 (wd.length - q) (cb - q)) (ys.drop q) ∧ IntsAt W (.slice A4 q cb) (ys.take q)) := Lib.hid fun W hW => by
                obtain ⟨A3', hv3', hi3⟩ := ints_sliced (k := q) (h := ys.length) (hib _ hW) (by rw [HYL.out]; omega) (Nat.le_refl _)
                obtain ⟨A4', hv4', hi4⟩ := ints_sliced (k := 0) (h := q) (hib _ hW) (by omega) (by rw [HYL.out]; omega)
                rw [hv3] at hv3'
                rw [hv4] at hv4'
                obtain ⟨rfl, -, -⟩ := Value.slice.inj hv3'
                obtain ⟨rfl, -, -⟩ := Value.slice.inj hv4'
                have k1 := hi1.below hW.1
                have k2 := hi2.below hW.1
                rw [List.take_length] at k1
                rw [List.drop_zero] at k2
                rw [List.take_length] at hi3
                rw [List.drop_zero] at hi4
                rw [HYL.out] at hi3
                exact ⟨k1, by simpa using k2, hi3, by simpa using hi4⟩
              have HV1 : Hid (sliced Aw q wd.length cw 1 = .slice A1 (wd.length - q) (cw - q)) := Lib.hid hv1
              have HV2 : Hid (sliced Aw 0 q cw 1 = .slice A2 q cw) := Lib.hid (by simpa using hv2)
              have HV3 : Hid (sliced Ab q wd.length cb 1 = .slice A3 (wd.length - q) (cb - q)) := Lib.hid (by have h := hv3; rw [HYL.out] at h; exact h)
              have HV4 : Hid (sliced Ab 0 q cb 1 = .slice A4 q cb) := Lib.hid (by simpa using hv4)
              have HF : Hid (Fits (wd.drop q ++ wd.take q) ∧ Fits (ys.drop q ++ ys.take q)) := Lib.hid ⟨fun z hz => HWD.out.2 z ((List.mem_append.1 hz).elim List.mem_of_mem_drop List.mem_of_mem_take), fun z hz => HFY.out z ((List.mem_append.1 hz).elim List.mem_of_mem_drop List.mem_of_mem_take)⟩
              have HAL : Hid ((allIn wd L q).length ≤ 100000) := Lib.hid (by rw [allIn_len]; have := HLL.out; omega)
              have HNX : Hid (allIn wd L (q + 1) = allIn wd L q ++ [wd.drop q ++ wd.take q, ys.drop q ++ ys.take q]) := Lib.hid (by rw [← HYE.out]; rfl)
              have HB3 : Hid (∀ k, (Value.slice Ab wd.length cb).ownBlock = some k → k < w9.heap.size ∧ ¬ IO k) := Lib.hid fun k hk => ⟨owns_lt HOJ.out hk, fun h => (ho3 k h).2.2 hk⟩
              clear hv1 hv2 hv3 hv4 hi1 hi2 hib ho1 ho2 ho3
              go_wp2_with fail
              refine (wpIn_wide (n := 3)).1 ?_
              refine wpIn_region_ini (by kernel_rfl) 22 rfl (fun i => ([some 74, some 75, some 76, some 77, some 78, some 79, some 80, some 81, some 82, some 83, some 84, some 85, some 86, some 87, some 88, some 89, some 90, some 91, some 92, some 93, some 94, some 11] : List (Option Nat)).getD i none) (lex_of (by kernel_rfl)) w9.heap.size 0 IO HIO.out (fun i => ([0, 1, 5, 10, 14] : List Nat).contains i) (fun i j => (([[], [], [], [], [2, 3], [1, 4], [], [], [6, 7], [5, 8], [], [], [], [11, 12], [10, 13], [], [], [15, 16], [14, 17], [9, 18], [0, 19], [20]] : List (List Nat)).getD i []).contains j) (fun W => KpI IO v6 w9 W) (fun j v O W => (([.ownT (allIn wd L q), .own [], .eq (.slice Aw wd.length cw), .eq (.int .i64 (q : Int)), .eq (.slice A1 (wd.length - q) (cw - q)), .own (wd.drop q), .eq (.slice Aw wd.length cw), .eq (.int .i64 (q : Int)), .eq (.slice A2 q cw), .own (wd.drop q ++ wd.take q), .own [], .eq (.slice Ab wd.length cb), .eq (.int .i64 (q : Int)), .eq (.slice A3 (wd.length - q) (cb - q)), .own (ys.drop q), .eq (.slice Ab wd.length cb), .eq (.int .i64 (q : Int)), .eq (.slice A4 q cb), .own (ys.drop q ++ ys.take q), .tab [wd.drop q ++ wd.take q, ys.drop q ++ ys.take q], .ownT (allIn wd L q ++ [wd.drop q ++ wd.take q, ys.drop q ++ ys.take q]), .ownT (allIn wd L q ++ [wd.drop q ++ wd.take q, ys.drop q ++ ys.take q])] : List FP).getD j FP.any).holds v6.heap.size v O W) (by kernel_rfl) (by kernel_rfl) (dm_inj (by kernel_rfl)) (fun j v O W W' _ _ h hs h1 h2 => FP.keep rfl h1.1 h2.1 hs h) (dm_lt (n := 159) (by kernel_rfl)) (Nat.le_refl _) (KpI.refl HBJ.out) ?_ ?_ ?_
              · intro ls o a W ho hS hbw hls hP hI hsW hcl
                have h20 : ls 20 = false := by
                  rcases h : ls 20 with _ | _
                  · rfl
                  · have := hcl 20 _ rfl h ⟨0, .data⟩ (.head _) rfl
                    rw [hls] at this; cases this
                have h21 : ls 21 = false := by
                  rcases h : ls 21 with _ | _
                  · rfl
                  · have := hcl 21 _ rfl h ⟨20, .data⟩ (.head _) rfl
                    rw [h20] at this; cases this
                obtain rfl := Option.some.inj ho
                exact wpOpIn_of rfl rfl (wpW_val (r_move (.tmp 11) rfl (hP.out 11 (dm_out1 (k := 21) h21 (by kernel_rfl)))) ⟨_, rfl, rfl, (fun h => by simp at h), FP.keep rfl HBJ.out hS.1 hsW (fun k hk => hI k hk) HOT.out⟩)
              · intro O ls q o a w2 hq hne ho hS hbw hls hP hpre hdj
                have hcases : q = 0 ∨ q = 1 ∨ q = 2 ∨ q = 3 ∨ q = 4 ∨ q = 5 ∨ q = 6 ∨ q = 7 ∨ q = 8 ∨ q = 9 ∨ q = 10 ∨ q = 11 ∨ q = 12 ∨ q = 13 ∨ q = 14 ∨ q = 15 ∨ q = 16 ∨ q = 17 ∨ q = 18 ∨ q = 19 ∨ q = 20 ∨ q = 21 := by
                  have : q < 22 := hq
                  omega
                rcases hcases with rfl | rfl | rfl | rfl | rfl | rfl | rfl | rfl | rfl | rfl | rfl | rfl | rfl | rfl | rfl | rfl | rfl | rfl | rfl | rfl | rfl | rfl
                · obtain rfl := Option.some.inj ho
                  exact absurd rfl hne
                · obtain rfl := Option.some.inj ho
                  exact wpOpIn_of rfl rfl (wpW_val (r_bs25_0 rfl) ⟨_, _, rfl, hS.alloc _, (fun h => by simp at h), Step.below ((Below.refl _ _).alloc (Nat.le_refl _) _), own_start hS.1.size⟩)
                · obtain rfl := Option.some.inj ho
                  exact wpOpIn_of rfl rfl (wpW_val (r_move (.tmp 13) rfl (hP.out 13 (dm_out (by kernel_rfl)))) ⟨_, _, rfl, hS, (fun h => by simp at h), Step.same, rfl⟩)
                · obtain rfl := Option.some.inj ho
                  exact wpOpIn_of rfl rfl (wpW_val (r_move (.tmp 16) rfl (hP.out 16 (dm_out (by kernel_rfl)))) ⟨_, _, rfl, hS, (fun h => by simp at h), Step.same, rfl⟩)
                · obtain rfl := Option.some.inj ho
                  exact wpOpIn_of rfl rfl (wpW_val (r_lo25 (.tmp 76) (.tmp 77) Aw wd.length cw q rfl (hpre 2 (by decide) rfl).1 (hpre 3 (by decide) rfl).1 (by omega) HV1.out) ⟨_, _, rfl, hS, (fun h => by simp at h), Step.same, rfl⟩)
                · obtain rfl := Option.some.inj ho
                  obtain ⟨A', c', w', hr, hg, hb, hf⟩ := FP.app_ints (ty := 25) Try.underlying25 (hpre 1 (by decide) rfl).1 ((HSL.out _ hS).1) (by simp) (by rw [List.length_drop]; omega) hS.1.size
                  rw [List.nil_append] at hr hf
                  exact wpOpIn_of rfl rfl (wpW_val (r_app (.tmp 75) (.tmp 78) 25 rfl rfl (hpre 4 (by decide) rfl).1 hr) ⟨_, _, rfl, hS.grown hg (fun r hr => ⟨(hb r hr).2, ((hpre 1 (by decide) rfl).2 r (hb r hr).1).1⟩), (fun h => by simp at h), Step.grown hg (fun r hr => ⟨1, by decide, rfl, rfl, (hb r hr).1⟩), hf _ (fun q h1 h2 => Mx.of (j := 1) (by decide) rfl (by decide) h1 (Nat.lt_of_lt_of_le h2 hg.size)) (fun q h1 h2 => Mx.fresh h1 h2)⟩)
                · obtain rfl := Option.some.inj ho
                  exact wpOpIn_of rfl rfl (wpW_val (r_move (.tmp 13) rfl (hP.out 13 (dm_out (by kernel_rfl)))) ⟨_, _, rfl, hS, (fun h => by simp at h), Step.same, rfl⟩)
                · obtain rfl := Option.some.inj ho
                  exact wpOpIn_of rfl rfl (wpW_val (r_move (.tmp 16) rfl (hP.out 16 (dm_out (by kernel_rfl)))) ⟨_, _, rfl, hS, (fun h => by simp at h), Step.same, rfl⟩)
                · obtain rfl := Option.some.inj ho
                  exact wpOpIn_of rfl rfl (wpW_val (r_hi25 (.tmp 80) (.tmp 81) Aw wd.length cw q rfl (hpre 6 (by decide) rfl).1 (hpre 7 (by decide) rfl).1 (by omega) HV2.out) ⟨_, _, rfl, hS, (fun h => by simp at h), Step.same, rfl⟩)
                · obtain rfl := Option.some.inj ho
                  obtain ⟨A', c', w', hr, hg, hb, hf⟩ := FP.app_ints (ty := 25) Try.underlying25 (hpre 5 (by decide) rfl).1 ((HSL.out _ hS).2.1) (by rw [List.length_drop]; omega) (by rw [List.length_take]; omega) hS.1.size
                  exact wpOpIn_of rfl rfl (wpW_val (r_app (.tmp 79) (.tmp 82) 25 rfl rfl (hpre 8 (by decide) rfl).1 hr) ⟨_, _, rfl, hS.grown hg (fun r hr => ⟨(hb r hr).2, ((hpre 5 (by decide) rfl).2 r (hb r hr).1).1⟩), (fun h => by simp at h), Step.grown hg (fun r hr => ⟨5, by decide, rfl, rfl, (hb r hr).1⟩), hf _ (fun q h1 h2 => Mx.of (j := 5) (by decide) rfl (by decide) h1 (Nat.lt_of_lt_of_le h2 hg.size)) (fun q h1 h2 => Mx.fresh h1 h2)⟩)
                · obtain rfl := Option.some.inj ho
                  exact wpOpIn_of rfl rfl (wpW_val (r_bs25_0 rfl) ⟨_, _, rfl, hS.alloc _, (fun h => by simp at h), Step.below ((Below.refl _ _).alloc (Nat.le_refl _) _), own_start hS.1.size⟩)
                · obtain rfl := Option.some.inj ho
                  exact wpOpIn_of rfl rfl (wpW_val (r_move (.tmp 14) rfl (hP.out 14 (dm_out (by kernel_rfl)))) ⟨_, _, rfl, hS, (fun h => by simp at h), Step.same, rfl⟩)
                · obtain rfl := Option.some.inj ho
                  exact wpOpIn_of rfl rfl (wpW_val (r_move (.tmp 16) rfl (hP.out 16 (dm_out (by kernel_rfl)))) ⟨_, _, rfl, hS, (fun h => by simp at h), Step.same, rfl⟩)
                · obtain rfl := Option.some.inj ho
                  exact wpOpIn_of rfl rfl (wpW_val (r_lo25 (.tmp 85) (.tmp 86) Ab wd.length cb q rfl (hpre 11 (by decide) rfl).1 (hpre 12 (by decide) rfl).1 (by omega) HV3.out) ⟨_, _, rfl, hS, (fun h => by simp at h), Step.same, rfl⟩)
                · obtain rfl := Option.some.inj ho
                  obtain ⟨A', c', w', hr, hg, hb, hf⟩ := FP.app_ints (ty := 25) Try.underlying25 (hpre 10 (by decide) rfl).1 ((HSL.out _ hS).2.2.1) (by simp) (by rw [List.length_drop, HYL.out]; omega) hS.1.size
                  rw [List.nil_append] at hr hf
                  exact wpOpIn_of rfl rfl (wpW_val (r_app (.tmp 84) (.tmp 87) 25 rfl rfl (hpre 13 (by decide) rfl).1 hr) ⟨_, _, rfl, hS.grown hg (fun r hr => ⟨(hb r hr).2, ((hpre 10 (by decide) rfl).2 r (hb r hr).1).1⟩), (fun h => by simp at h), Step.grown hg (fun r hr => ⟨10, by decide, rfl, rfl, (hb r hr).1⟩), hf _ (fun q h1 h2 => Mx.of (j := 10) (by decide) rfl (by decide) h1 (Nat.lt_of_lt_of_le h2 hg.size)) (fun q h1 h2 => Mx.fresh h1 h2)⟩)
                · obtain rfl := Option.some.inj ho
                  exact wpOpIn_of rfl rfl (wpW_val (r_move (.tmp 14) rfl (hP.out 14 (dm_out (by kernel_rfl)))) ⟨_, _, rfl, hS, (fun h => by simp at h), Step.same, rfl⟩)
                · obtain rfl := Option.some.inj ho
                  exact wpOpIn_of rfl rfl (wpW_val (r_move (.tmp 16) rfl (hP.out 16 (dm_out (by kernel_rfl)))) ⟨_, _, rfl, hS, (fun h => by simp at h), Step.same, rfl⟩)
                · obtain rfl := Option.some.inj ho
                  exact wpOpIn_of rfl rfl (wpW_val (r_hi25 (.tmp 89) (.tmp 90) Ab wd.length cb q rfl (hpre 15 (by decide) rfl).1 (hpre 16 (by decide) rfl).1 (by omega) HV4.out) ⟨_, _, rfl, hS, (fun h => by simp at h), Step.same, rfl⟩)
                · obtain rfl := Option.some.inj ho
                  obtain ⟨A', c', w', hr, hg, hb, hf⟩ := FP.app_ints (ty := 25) Try.underlying25 (hpre 14 (by decide) rfl).1 ((HSL.out _ hS).2.2.2) (by rw [List.length_drop, HYL.out]; omega) (by rw [List.length_take, HYL.out]; omega) hS.1.size
                  exact wpOpIn_of rfl rfl (wpW_val (r_app (.tmp 88) (.tmp 91) 25 rfl rfl (hpre 17 (by decide) rfl).1 hr) ⟨_, _, rfl, hS.grown hg (fun r hr => ⟨(hb r hr).2, ((hpre 14 (by decide) rfl).2 r (hb r hr).1).1⟩), (fun h => by simp at h), Step.grown hg (fun r hr => ⟨14, by decide, rfl, rfl, (hb r hr).1⟩), hf _ (fun q h1 h2 => Mx.of (j := 14) (by decide) rfl (by decide) h1 (Nat.lt_of_lt_of_le h2 hg.size)) (fun q h1 h2 => Mx.fresh h1 h2)⟩)
                · obtain rfl := Option.some.inj ho
                  obtain ⟨⟨A9, c9, h9, o9, r9⟩, -⟩ := hpre 9 (by decide) rfl
                  obtain ⟨⟨A8, c8, h8, o8, r8⟩, -⟩ := hpre 18 (by decide) rfl
                  exact wpOpIn_of rfl rfl (wpW_val (r_bs31_2 (.tmp 83) (.tmp 92) A9 A8 _ _ c9 c8 rfl h9 h8) ⟨_, _, rfl, hS.alloc _, (fun h => by simp at h), Step.below ((Below.refl _ _).alloc (Nat.le_refl _) _), two_tab o9 o8 HF.out.1 HF.out.2 r9 r8 (by decide) (by decide) rfl rfl rfl⟩)
                · obtain rfl := Option.some.inj ho
                  obtain ⟨⟨A9, c9, h9, t9⟩, hl9⟩ := hpre 19 (by decide) rfl
                  obtain ⟨k0, hl0⟩ := hpre 0 (by decide) rfl
                  obtain ⟨A', c', w', hr, hg, hb, hf⟩ := FP.app_rows (ty := 31) Try.underlying31 k0 t9 (fun k hk => ⟨(hl9 k hk).2, fun h0 => hdj 0 19 k (by decide) (by decide) rfl rfl (by decide) rfl h0 hk⟩) (by have := HAL.out; omega) (by simp) hS.1.size
                  exact wpOpIn_of rfl rfl (wpW_val (r_app (.tmp 74) (.tmp 93) 31 rfl rfl h9 hr) ⟨_, _, rfl, hS.grown hg (fun r hr => ⟨(hb r hr).2, (hl0 r (hb r hr).1).1⟩), (fun h => by simp at h), Step.grown hg (fun r hr => ⟨0, by decide, rfl, rfl, (hb r hr).1⟩), hf _ (fun q h1 h2 => Mx.of (j := 0) (by decide) rfl (by decide) h1 (Nat.lt_of_lt_of_le h2 hg.size)) (fun q h1 => Mx.of (j := 19) (by decide) rfl (by decide) h1 (Nat.lt_of_lt_of_le (hl9 q h1).2 hg.size)) (fun q h1 h2 => Mx.fresh h1 h2)⟩)
                · obtain rfl := Option.some.inj ho
                  have k := hpre 20 (by decide) rfl
                  exact wpOpIn_of rfl rfl (wpW_val (r_assign (.tmp 94) rfl rfl) ⟨_, _, rfl, hS, (fun h => by simp at h), Step.same, FP.mono (fun q hq => Mx.of (j := 20) (by decide) rfl (by decide) hq (k.2 q hq).2) k.1⟩)
              · intro O ls a w2 hall hS hbw hP hsl
                obtain ⟨vs, hvs, hfr⟩ := hP.frame 159 rfl
                obtain ⟨kT, kO⟩ := hsl 21 (by decide) (.inl rfl)
                replace kT : (FP.ownT (allIn wd L q ++ [wd.drop q ++ wd.take q, ys.drop q ++ ys.take q])).holds v6.heap.size (a.tmps.getD 11 undef) (O 21) w2 := kT
                rw [← HNX.out] at kT
                obtain ⟨A8, c8, F8, e8, -⟩ := id kT
                rw [e8] at kT
                have HS5 : Hid (AllSt v6 w2 (fun r => (Value.slice Ab wd.length cb).ownBlock = some r) (.slice A8 (allIn wd L (q + 1)).length c8) (allIn wd L (q + 1))) := Lib.hid ⟨O 21, hS.1, kT, fun k hk => ⟨(kO k hk).1.elim (fun h => Nat.le_trans HBJ.out.size h) (HIO2.out k), (kO k hk).2, fun h => (kO k hk).1.elim (fun h' => Nat.lt_irrefl _ (Nat.lt_of_lt_of_le (HB3.out k h).1 h')) (HB3.out k h).2⟩⟩
                have HO5 : Hid (OwnI w7.heap.size w2 (.slice Ab wd.length cb) ys) := Lib.hid (owns_keep HOJ.out fun r hr => hS.2.2 r (HB3.out r hr).1 (HB3.out r hr).2)
                rw [← hvs] at e8
                clear hsl hP hall hS hvs hbw kT kO HSL HV1 HV2 HV3 HV4 HF HAL HNX HB3 HOJ HSJ HIO HIO2 HOT
                subst hfr
                dsimp only
                simp only [List.range, List.range.loop, List.map_cons, List.map_nil, List.any_cons, List.any_nil, Nat.reduceBEq, Option.some_beq_some, Bool.or_false, Bool.false_or, Bool.false_eq_true, if_true, if_false, List.getD_cons_zero, List.getD_cons_succ, e8]
                clear e8
                go_wp2_with fail
                go_roundw
                case rel => exact ⟨q + 1, A8, c8, by go_num, by omega, rfl, HS5, HO5⟩
                case measure => simp [intOf]; omega
            · obtain rfl : q = wd.length := by omega
              have HS4 : Hid (AllSt v6 w9 (fun _ => False) (.slice AJ (allIn wd L wd.length).length cJ) (allTo rels (k + 1))) := Lib.hid (by rw [HT1.out]; exact HSJ.out.mono fun k _ h => h.elim)
              have HLN : Hid ((allIn wd L wd.length).length = (allTo rels (k + 1)).length) := Lib.hid (by rw [HT1.out])
              go_wp2_with fail
              go_roundw
              case rel => exact ⟨k + 1, AJ, cJ, by go_num, by omega, by rw [HLN.out], HS4⟩
              case measure => simp [intOf]; omega
    · obtain rfl : k = rels.length := by omega
      have HAT := Lib.hid HS.out.tab
      have hal := allTo_len (rels := rels) (fun j => HRL.out j) rels.length
      have HLW : Hid ((∀ v ∈ got, (∃ u, v = x :: u) ∧ cntW (allTo rels rels.length) v ≠ 0 ∧ cntW got v = 1) ∧ (∀ v ∈ allTo rels rels.length, (∃ y u, v = y :: u) ∧ (v.headD 0 = x → cntW got v = 1))) := HLAW
      clear HLAW HX
      have hal1 : (allTo rels rels.length).length ≤ 20000 := by omega
      have hal2 : ((allTo rels rels.length).length : Int) ≤ 20000 := by omega
      have hal3 : (0 : Int) ≤ ((allTo rels rels.length).length : Int) := Int.natCast_nonneg _
      have HB7 := Lib.hid (bl3 HB6.out HBW.out)
      have HGT := Lib.hid (kept_tab.below HT6.out HBW.out)
      clear hal hlt hk HS HTR HT6
      generalize allTo rels rels.length = all at *
      go_wp2_with fail
      go_loopw [17] (fun i wz => ∃ q : Nat, i = .int .i64 (q : Int) ∧ q ≤ got.length ∧ Hid (Below w7.heap.size w7 wz)) (fun i _ => got.length - (intOf i).toNat)
      case atStart => exact ⟨0, rfl, Nat.zero_le _, Lib.hid (Below.refl _ _)⟩
      case round =>
        obtain ⟨q, rfl, hq, HBQ⟩ := hrel
        obtain ⟨w8, rfl⟩ : ∃ w8, w8 = wr := ⟨_, rfl⟩
        have hq0 : (0 : Int) ≤ (q : Int) := Int.natCast_nonneg _
        by_cases hql : q < got.length
        · have hqI : (q : Int) < (got.length : Int) := by omega
          have hTg := kept_tab.below HGT.out HBQ.out
          have hTa := kept_tab.below HAT.out HBQ.out
          obtain ⟨bg, og, rfl, hcl⟩ := hTg.cells (by omega)
          obtain ⟨up, hup, hip⟩ := hcl q hql
          obtain ⟨Ap, cp, rfl, -, -, hpc⟩ := hip.open_
          obtain ⟨⟨u, hu⟩, hc1, hc2⟩ := HLW.out.1 (got.getD q []) (by rw [List.getD_eq_getElem?_getD, List.getElem?_eq_getElem hql]; exact List.getElem_mem hql)
          have H84a := Lib.hid (count84_any w8 _ _ all (got.getD q []) hTa hip (by omega))
          have H84b : Hid (∀ W, Below w8.heap.size w8 W → Calls Try.prog 84 #[.slice (some ⟨bg, og, none⟩) got.length c6, .slice Ap (got.getD q []).length cp] W fun e w' => e = .returned (.int .i64 1) ∧ Below w8.heap.size w8 w') := Lib.hid fun W hW =>
            (count84_any W _ _ got (got.getD q []) (kept_tab.below hTg hW) (hip.below hW) (by omega)).mono fun e w' ⟨h, h'⟩ => ⟨by rw [h, hc2]; rfl, bl3 hW h'⟩
          have HCL : Hid (∀ W, Below w8.heap.size w8 W → W.cell? ⟨bg, og + q, none⟩ = some (.slice Ap (got.getD q []).length cp)) := Lib.hid fun W hW => (hW.cell (p := ⟨bg, og + q, none⟩) (World.block_lt_of_cell? w8 _ hup)).trans hup
          have hln : (got.getD q []).length = u.length + 1 := by rw [hu]; rfl
          obtain ⟨bp, op, rfl, hpd⟩ := hpc (by omega)
          have hp0 := hpd 0 (by omega)
          rw [show (got.getD q []).getD 0 0 = x by rw [hu]; rfl, Nat.add_zero] at hp0
          rw [hln] at H84a H84b HCL hup
          have hn1 : (0 : Int) < ((cntW all (got.getD q []) : Nat) : Int) := by omega
          generalize cntW all (got.getD q []) = n1 at *
          have hu0 : (0 : Int) ≤ (u.length : Int) := Int.natCast_nonneg _
          clear hTg hTa hcl hip hpc hpd hc1 hc2 hu hln
          generalize u.length = ul at *
          go_wp2_with (first
            | (go_at_call 84; (with_reducible refine H84a.out.mono ?_); rintro E wz ⟨rfl, hb⟩
               have HB8 := Lib.hid hb
               have hup8 := HCL.out _ hb
               clear hb)
            | (go_at_call 84; (with_reducible refine (H84b.out _ HB8.out).mono ?_); rintro E wz ⟨rfl, hb⟩
               have HB9 := Lib.hid (bl3 HBQ.out hb)
               clear hb))
          · exfalso
            rename_i h
            have z1 : ((ul : Int) + 1 == 0) = false := by simp; omega
            have z2 : ((n1 : Int) == 0) = false := by simp; omega
            simp only [z1, z2, Bool.false_eq_true, or_false] at h
          · go_roundw
            case rel => exact ⟨q + 1, by go_num, by omega, HB9⟩
            case measure => simp [intOf]; omega
        · obtain rfl : q = got.length := by omega
          clear hql hq
          go_wp2_with fail
          go_loopw [18] (fun i wz => ∃ q : Nat, i = .int .i64 (q : Int) ∧ q ≤ all.length ∧ Hid (Below w7.heap.size w7 wz)) (fun i _ => all.length - (intOf i).toNat)
          case atStart => exact ⟨0, rfl, Nat.zero_le _, HBQ⟩
          case round =>
            clear HBQ hq0
            obtain ⟨q, rfl, hq, HBQ⟩ := hrel
            obtain ⟨w9, rfl⟩ : ∃ w9, w9 = wr := ⟨_, rfl⟩
            have hq0 : (0 : Int) ≤ (q : Int) := Int.natCast_nonneg _
            by_cases hql : q < all.length
            · have hqI : (q : Int) < (all.length : Int) := by omega
              have hTg := kept_tab.below HGT.out HBQ.out
              have hTa := kept_tab.below HAT.out HBQ.out
              obtain ⟨ba, oa, rfl, hcl⟩ := hTa.cells (by omega)
              obtain ⟨up, hup, hip⟩ := hcl q hql
              obtain ⟨Ap, cp, rfl, -, -, hpc⟩ := hip.open_
              obtain ⟨⟨y, u, hu⟩, himp⟩ := HLW.out.2 (all.getD q []) (by rw [List.getD_eq_getElem?_getD, List.getElem?_eq_getElem hql]; exact List.getElem_mem hql)
              have hln : (all.getD q []).length = u.length + 1 := by rw [hu]; rfl
              obtain ⟨bp, op, rfl, hpd⟩ := hpc (by omega)
              have hp0 := hpd 0 (by omega)
              rw [show (all.getD q []).getD 0 0 = y by rw [hu]; rfl, Nat.add_zero] at hp0
              have hu0 : (0 : Int) ≤ (u.length : Int) := Int.natCast_nonneg _
              by_cases hyx : y = x
              · have hc := himp (by rw [hu]; exact hyx)
                have H84b : Hid (Calls Try.prog 84 #[.slice A6 got.length c6, .slice (some ⟨bp, op, none⟩) (all.getD q []).length cp] w9 fun e w' => e = .returned (.int .i64 1) ∧ Below w7.heap.size w7 w') := Lib.hid
                  ((count84_any w9 _ _ got (all.getD q []) hTg hip (by omega)).mono fun e w' ⟨h, h'⟩ => ⟨by rw [h, hc]; rfl, bl3 HBQ.out h'⟩)
                rw [hln] at H84b hup
                have d1 : (y == x) = true := by simp [hyx]
                clear hTg hTa hcl hip hpc hpd hc himp hu hln hyx
                generalize u.length = ul at *
                go_wp2_with (go_at_call 84; (with_reducible refine H84b.out.mono ?_); rintro E wz ⟨rfl, hb⟩; have HB9 := Lib.hid hb; clear hb)
                go_roundw
                case rel => exact ⟨q + 1, by go_num, by omega, HB9⟩
                case measure => simp [intOf]; omega
              · have d1 : (y == x) = false := by simp [hyx]
                rw [hln] at hup
                clear hTg hTa hcl hip hpc hpd himp hu hln hyx
                generalize u.length = ul at *
                go_wp2_with fail
                go_roundw
                case rel => exact ⟨q + 1, by go_num, by omega, HBQ⟩
                case measure => simp [intOf]; omega
            · go_wp2_with fail
              go_ret
              exact ⟨rfl, bl3 HB7.out HBQ.out⟩
end Go.Proofs
namespace Go.Proofs
open Go.RowKit Go.ChangeShapes Go.WideShapes Go.ChangeAt Go.Deep
section
variable {H : Type} {enc : TypeId × Value → H} {W : World}
theorem spot_none {a : Addr} {v : Value} (h : W.cell? (a.add 0) = some v) : a = ⟨a.block, a.off, none⟩ := by
  obtain ⟨b, o, s⟩ := a
  cases s with
  | none => rfl
  | some q =>
    exfalso
    have e : ({ block := b, off := o, spot := some q } : Addr).add 0 = { block := b, off := o, spot := some q } := by unfold Addr.add; rw [if_pos rfl]
    rw [e] at h
    unfold World.cell? at h
    simp only [Option.isSome_some, if_true] at h
    split at h <;> cases h
theorem wf_fits {x : Int} (h : (Lit.int .i64 x).wf = true) : -9223372036854775808 ≤ x ∧ x ≤ 9223372036854775807 := by
  simpa [Lit.wf, IntKind.min, IntKind.max, IntKind.signed, IntKind.bits] using h
theorem lat_of_trod {α : Type} {R : World → Value → α → Prop} {d : α} {t e : TypeId} {base fuel : Nat} {spare : Nat → Bool} {held : Bool} {v : Value} {x : DataW H × List MemPlace} (ht : Try.prog.underlying t = some (.slice e)) (hc : Try.prog.cellsOf e = 1)
    (hR : ∀ n u y, DataW.trod enc Try.prog W base spare held n e [u] = some y → ∃ z, R W u z) (h : DataW.trod enc Try.prog W base spare held fuel t [v] = some x) : ∃ xs, LAt R d W v xs := by
  rcases open_slice1 ht hc h with ⟨hv, -⟩ | ⟨a, len, cap, m, n, V, D, Pl, hv, -, hl, hm, hmm, -, hx⟩
  · obtain rfl : v = .slice none 0 0 := by simpa using hv
    exact ⟨[], [], ⟨none, 0, 0, rfl, rfl, Nat.le_refl _, by simp [maxLen], fun h => absurd h (by simp)⟩, rfl, fun i hi => absurd hi (by simp)⟩
  · obtain rfl : v = .slice (some a) len cap := by simpa using hv
    have hlm : len ≤ m := by rw [hmm]; split <;> omega
    have hz : ∀ i, i < len → ∃ z, R W (V i) z := fun i hi => hR n (V i) _ (hx i (by omega)).2
    have hf : ∃ f : Nat → α, ∀ i, i < len → R W (V i) (f i) := by
      have hz' : ∀ i, ∃ z, i < len → R W (V i) z := fun i => by
        by_cases hi : i < len
        · obtain ⟨z, hz⟩ := hz i hi; exact ⟨z, fun _ => hz⟩
        · exact ⟨d, fun h => absurd h hi⟩
      exact ⟨fun i => Classical.choose (hz' i), fun i => Classical.choose_spec (hz' i)⟩
    obtain ⟨f, hf⟩ := hf
    refine ⟨(List.range len).map f, (List.range len).map V, ⟨_, len, cap, rfl, by simp, hl, hm, fun h0 => ?_⟩, by simp, fun i hi => ?_⟩
    · have hsp := spot_none (hx 0 (by omega)).1
      refine ⟨a.block, a.off, by rw [← hsp], fun j u hu => ?_⟩
      have hj : j < len := by have := (List.getElem?_eq_some_iff.1 hu).1; simpa using this
      have := (hx j (by omega)).1
      rw [hsp, Addr.add_lit] at this
      rw [this, ← hu]
      simp [List.getElem?_range hj]
    · have hi' : i < len := by simpa using hi
      refine ⟨V i, by simp [List.getElem?_range hi'], ?_⟩
      have : ((List.range len).map f).getD i d = f i := by simp [List.getD_eq_getElem?_getD, List.getElem?_range hi']
      rw [this]
      exact hf i hi'
theorem intsT_of_trod {t : TypeId} (ht : Try.prog.underlying t = some (.slice 3)) {base fuel : Nat} {spare : Nat → Bool} {held : Bool} {v : Value} {x : DataW H × List MemPlace} (h : DataW.trod enc Try.prog W base spare held fuel t [v] = some x) : ∃ xs, IntsAt W v xs := by
  obtain ⟨xs, vs, hS, hl, he⟩ := lat_of_trod (R := fun _ u z => u = .int .i64 z ∧ (Lit.int .i64 z).wf = true) (d := 0) ht (by kernel_rfl) (fun n u y hy => by
    obtain ⟨m, hu, -, hw⟩ := DataW.trod_int Try.underlying3 hy
    exact ⟨m, by simpa using hu, hw⟩) h
  have hvs : vs = ints xs := by
    apply List.ext_getElem (by simpa [ints] using hl)
    intro i h1 h2
    obtain ⟨u, hu, rfl, -⟩ := he i (by omega)
    have hi : i < xs.length := by omega
    rw [List.getElem?_eq_getElem h1] at hu
    rw [Option.some.inj hu]
    simp [ints, List.getD_eq_getElem?_getD, hi]
  refine ⟨xs, hvs ▸ hS, fun z hz => ?_⟩
  obtain ⟨i, hi, rfl⟩ := List.getElem_of_mem hz
  obtain ⟨u, -, -, hw⟩ := he i hi
  have e : xs.getD i 0 = xs[i] := by simp [List.getD_eq_getElem?_getD, hi]
  rw [e] at hw
  exact wf_fits hw
theorem ints_of_trod {base fuel : Nat} {spare : Nat → Bool} {held : Bool} {v : Value} {x : DataW H × List MemPlace} (h : DataW.trod enc Try.prog W base spare held fuel 24 [v] = some x) : ∃ xs, IntsAt W v xs := intsT_of_trod Try.underlying24 h
end
end Go.Proofs
namespace Go.Proofs.Ytmpnengjboabcaa
open Go.ChangeShapes Go.WideShapes Go.ChangeAt Go.RowKit
theorem fac_k25 : (Try.prog.mayEnter) = true := by kernel_rfl
end Go.Proofs.Ytmpnengjboabcaa
namespace Go.Proofs.Ytmpnengjboabcaa
open Go.ChangeShapes Go.WideShapes Go.ChangeAt Go.RowKit
theorem fac_k26 : ((Rows.topPresentRow.lifted == Try.prog.liftsFinal)) = true := by kernel_rfl
end Go.Proofs.Ytmpnengjboabcaa
namespace Go.Proofs.Ytmpnengjboabcaa
open Go.ChangeShapes Go.WideShapes Go.ChangeAt Go.RowKit
theorem fac_k27 : ((Try.prog.make == some Rows.topPresentRow.make)) = true := by kernel_rfl
end Go.Proofs.Ytmpnengjboabcaa
namespace Go.Proofs.Ytmpnengjboabcaa
open Go.ChangeShapes Go.WideShapes Go.ChangeAt Go.RowKit
theorem fac_k1 : (laidOutB Try.prog) = true := by kernel_rfl
theorem fac_k2 : (mapsRowed Try.prog) = true := by kernel_rfl
theorem fac_k24 : (Try.prog.stopsHeard) = true := by kernel_rfl
end Go.Proofs.Ytmpnengjboabcaa
namespace Go.Proofs.Ytmpnengjboabcaa
theorem and_mk {a b : Bool} (h : a = true) (k : b = true) : (a && b) = true := by rw [h, k]; rfl
theorem joined_mk {P : Program} {f : FuncId} {fn : Func} {s : ChangeSpec} {c : OpenClaim} (k0 : (c.wf (OpenSpec.ofChange s)) = true) (k1 : (laidOutB P) = true) (k2 : (mapsRowed P) = true) (k3 : (fn.params.all (P.readableRec ·)) = true) (k4 : (namedTie P c.named s.vars) = true) (k5 : ((c.stops == [])) = true) (k6 : ((P.stops == [])) = true) (k7 : ((c.knobs == [])) = true) (k8 : ((P.stopKnobs == [])) = true) (k9 : ((c.inPlace == P.inPlace f)) = true) (k10 : ((c.unfollowed == P.unfollowed f)) = true) (k11 : ((c.recurses == P.recurses f)) = true) (k12 : ((c.named == P.varsNamed f)) = true) (k13 : ((c.maps == (fn.params.toList ++ s.plain.varTypes P).any (P.mapsRec ·))) = true) (k14 : ((c.ifaces == (fn.params.toList ++ s.plain.varTypes P).any (P.ifacesRec ·))) = true) (k15 : ((c.mapsOut == P.mapsAmong fn.resultTypes.toList)) = true) (k16 : ((c.loops == (fn.params.toList ++ s.plain.varTypes P).any (P.loopsFrom ·))) = true) (k17 : ((c.wideKeys == (fn.params.toList ++ s.plain.varTypes P ++ fn.resultTypes.toList).any (P.wideKeysFrom ·))) = true) (k18 : (s.vars.all (P.varReadable ·)) = true) (k19 : (fn.resultTypes.all (fun t => P.readableRec t && decide (t < P.types.size))) = true) (k20 : ((c.ifacesOut == fn.resultTypes.toList.any (P.ifacesRec ·))) = true) (k21 : ((c.loopsOut == fn.resultTypes.toList.any (P.loopsFrom ·))) = true) (k22 : ((c.plainKeys == P.plainKeys)) = true) (k23 : (c.shortTexts.isNone) = true) (k24 : (P.stopsHeard) = true) (k25 : (P.mayEnter) = true) (k26 : ((c.lifted == P.liftsFinal)) = true) (k27 : ((P.make == some c.make)) = true) (k28 : ((c.domain.isEmpty && c.kinds == [])) = true) (k29 : ((c.pinned == c.pinnedBy)) = true) (k30 : ((c.veiled == (fn.params.toList ++ s.plain.varTypes P ++ fn.resultTypes.toList).any (P.veiledRec ·))) = true) (k31 : (c.veiledFits P fn.params.toList (fn.params.toList ++ s.plain.varTypes P ++ fn.resultTypes.toList)) = true) : joinedFacts P f fn s c = true := by
  have q28 := k28
  rw [Bool.and_eq_true, beq_iff_eq] at q28
  unfold joinedFacts
  refine (and_mk (and_mk (and_mk (and_mk (and_mk (and_mk (and_mk (and_mk (and_mk (and_mk (and_mk (and_mk (and_mk (and_mk (and_mk (and_mk (and_mk (and_mk (and_mk (and_mk (and_mk (and_mk (and_mk (and_mk (and_mk (and_mk (and_mk (and_mk (and_mk (and_mk (and_mk k0 k1) k2) k3) k4) k5) k6) k7) k8) k9) k10) k11) k12) k13) k14) k15) k16) k17) k18) k19) k20) k21) k22) k23) k24) k25) k26) k27) ?_) k29) k30) k31)
  rw [if_pos q28.1, q28.2]
  rfl
end Go.Proofs.Ytmpnengjboabcaa
