/- The law of chapter 21: same, half, awake; cayleyref17.Same; the walk of RewritePresents; Arguments opened: lists of numbers, tables, presentations; Arguments opened: presentations. -/
import Derived.Test.YtcfighimnkfmeaaQ15
import Derived.Test.YtcfighimnkfmeaaQ1
import Derived.ProofKit
import Derived.Deep.Slices
import Derived.Deep.Strs
namespace Go.Proofs
open Go.RowKit Go.Shelf Go.Proofs.Ct Go.Maps

set_option maxRecDepth 100000 in
set_option maxHeartbeats 1000000 in
theorem same22_any (w : World) (va vb : Value) (A B : List (List Int)) (ha : Tab w va A) (hb : Tab w vb B) :
    Calls Try.prog 22 #[va, vb] w fun e w' => e = .returned (.bool (decide (A = B))) ∧ Below w.heap.size w w' := by
  obtain ⟨A0, ca, rfl, ha1, ha2, ha3⟩ := ha.open_
  obtain ⟨B0, cb, rfl, hb1, hb2, hb3⟩ := hb.open_
  have HA := Lib.hid ha3
  have HB := Lib.hid hb3
  clear ha hb ha3 hb3
  by_cases hl : A.length = B.length
  · have d1 : ((A.length : Int) != (B.length : Int)) = false := by simp; omega
    have d2 : (A.length != B.length) = false := by simp; omega
    have HL := Lib.hid hl
    clear hl
    go_enter Try.func22, Try.ntmps22
    go_wp2_with fail
    go_loopw [5] (fun i wr => ∃ k : Nat, k ≤ A.length ∧ i = .int .i64 k ∧ Hid (∀ j, j < k → A.getD j [] = B.getD j []) ∧ Hid (Below w.heap.size w wr)) (fun i _ => A.length - (intOf i).toNat)
    case atStart => exact ⟨0, Nat.zero_le _, rfl, Lib.hid fun j hj => absurd hj (by omega), Lib.hid (Below.refl _ _)⟩
    case round =>
      obtain ⟨k, hk, rfl, HZ, HBW⟩ := hrel
      by_cases hlt : k < A.length
      · obtain ⟨b1, o1, rfl, hc1⟩ := HA.out (by omega)
        obtain ⟨b2, o2, rfl, hc2⟩ := HB.out (by rw [← HL.out]; omega)
        obtain ⟨u1, hu1, hr1⟩ := hc1 k hlt
        obtain ⟨u2, hu2, hr2⟩ := hc2 k (by rw [← HL.out]; omega)
        have HR1 := Lib.hid hr1
        have HR2 := Lib.hid hr2
        have hk0 : (0 : Int) ≤ (k : Int) := Int.natCast_nonneg _
        have hkb : (k : Int) < (B.length : Int) := by rw [← HL.out]; omega
        have hka : (k : Int) < (A.length : Int) := by omega
        have HN : Hid (A.getD k [] ≠ B.getD k [] → A ≠ B) := Lib.hid (fun h => getD_ne (A := A) (B := B) (d := []) (k := k) h)
        have HK : Hid (A.getD k [] = B.getD k [] → ∀ j, j < k + 1 → A.getD j [] = B.getD j []) := Lib.hid (fun h => all_succ HZ.out h)
        have HSS : Hid (∀ w', Below w.heap.size w w' → w'.cell? ⟨b1, o1 + k, none⟩ = some u1 ∧ w'.cell? ⟨b2, o2 + k, none⟩ = some u2) := Lib.hid fun w' h => ⟨(h.cell (p := ⟨b1, o1 + k, none⟩) (World.block_lt_of_cell? w _ hu1)).trans hu1, (h.cell (p := ⟨b2, o2 + k, none⟩) (World.block_lt_of_cell? w _ hu2)).trans hu2⟩
        obtain ⟨A3, c3, rfl, hd1, hd2, -⟩ := hr1.open_
        obtain ⟨A4, c4, rfl, he1, he2, -⟩ := hr2.open_
        clear hc1 hc2 hr1 hr2 hu1 hu2
        generalize A.getD k [] = x at *
        generalize B.getD k [] = y at *
        by_cases hxy : x = y
        · have HE : Hid (decide (x = y) = true) := Lib.hid (decide_eq_true hxy)
          have HK2 := Lib.hid (HK.out hxy)
          clear hxy HN HK
          go_wp2_with fail
          have HW : Hid (Below w.heap.size w wr.drew) := Lib.hid HBW.out.drew
          go_region_held3 (fun w' => w'.cell? ⟨b1, o1 + k, none⟩ = some (.slice A3 x.length c3) ∧ w'.cell? ⟨b2, o2 + k, none⟩ = some (.slice A4 y.length c4)) (first | exact HSS.out _ HW.out)
            (first
            | (go_at_call 23; (refine (equal23_any _ _ _ x y (HR1.out.below HW.out) (HR2.out.below HW.out)).mono ?_); rintro e w6 ⟨rfl, hb6⟩; rw [HE.out]; have HW := Lib.hid (HW.out.trans (hb6.mono HW.out.size)); clear hb6))
          all_goals
            go_wp2_with fail
            go_roundw
            case rel => exact ⟨k + 1, by omega, by go_num, HK2, HW⟩
            case measure => simp [intOf]; omega
        · have HE : Hid (decide (x = y) = false) := Lib.hid (decide_eq_false hxy)
          have HD : Hid (decide (A = B) = false) := Lib.hid (decide_eq_false (HN.out hxy))
          clear hxy HN HK
          go_wp2_with fail
          have HW : Hid (Below w.heap.size w wr.drew) := Lib.hid HBW.out.drew
          go_region_held3 (fun w' => w'.cell? ⟨b1, o1 + k, none⟩ = some (.slice A3 x.length c3) ∧ w'.cell? ⟨b2, o2 + k, none⟩ = some (.slice A4 y.length c4)) (first | exact HSS.out _ HW.out)
            (first
            | (go_at_call 23; (refine (equal23_any _ _ _ x y (HR1.out.below HW.out) (HR2.out.below HW.out)).mono ?_); rintro e w6 ⟨rfl, hb6⟩; rw [HE.out]; have HW := Lib.hid (HW.out.trans (hb6.mono HW.out.size)); clear hb6))
          all_goals
            go_wp2_with fail
            go_ret
            exact ⟨ret_bool HD.out.symm, HW.out⟩
      · obtain rfl : k = A.length := by omega
        have HD : Hid (decide (A = B) = true) := Lib.hid (decide_eq_true (getD_ext HL.out HZ.out))
        go_wp2_with fail
        go_ret
        exact ⟨ret_bool HD.out.symm, HBW.out⟩
  · have d1 : ((A.length : Int) != (B.length : Int)) = true := by simp; omega
    have d2 : (A.length != B.length) = true := by simp; omega
    have HD : Hid (decide (A = B) = false) := Lib.hid (decide_eq_false fun h => hl (by rw [h]))
    clear hl
    go_enter Try.func22, Try.ntmps22
    go_wp2_with fail
    go_ret
    exact ⟨ret_bool HD.out.symm, Below.refl _ _⟩

/-- numbers in a new block -/
theorem ints_lit (w : World) (xs : List Int) (hf : Fits xs) (n : Nat) (hn : xs.length = n) (hm : n ≤ 1000) : IntsAt (w.alloc (.cells (ints xs).toArray 3)) (.slice (some ⟨w.heap.size, 0, none⟩) n n) xs := by
  subst hn
  refine ⟨⟨_, xs.length, xs.length, rfl, by simp [ints], Nat.le_refl _, by have : xs.length ≤ 9223372036854775807 := by omega
                                                                           simpa [maxLen] using this, fun _ => ⟨w.heap.size, 0, rfl, fun j u hu => ?_⟩⟩, hf⟩
  rw [cell_of_row _ _ _ _ _ _ (heap_alloc_new w _), Nat.zero_add]
  simpa using hu
theorem tab_three (w : World) (u v z : Value) (x y q : List Int) (hu : IntsAt w u x) (hv : IntsAt w v y) (hz : IntsAt w z q) {e : TypeId} : Tab (w.alloc (.cells #[u, v, z] e)) (.slice (some ⟨w.heap.size, 0, none⟩) 3 3) [x, y, q] := by
  have hb : Below w.heap.size w (w.alloc (.cells #[u, v, z] e)) := (Below.refl _ _).alloc (Nat.le_refl _) _
  refine ⟨[u, v, z], ⟨_, 3, 3, rfl, rfl, Nat.le_refl _, by simp [maxLen], fun _ => ⟨w.heap.size, 0, rfl, fun j a ha => ?_⟩⟩, rfl, fun i hi => ?_⟩
  · rw [cell_of_row _ _ _ _ _ _ (heap_alloc_new w _), Nat.zero_add]
    simpa using ha
  · have : i = 0 ∨ i = 1 ∨ i = 2 := by simp at hi; omega
    rcases this with rfl | rfl | rfl
    · exact ⟨u, rfl, hu.below hb⟩
    · exact ⟨v, rfl, hv.below hb⟩
    · exact ⟨z, rfl, hz.below hb⟩

def halfT : List (List Int) := [[1, 1, 0, 0], [0, 0, 1, 1]]
theorem half27_any (w : World) : Calls Try.prog 27 #[] w fun e w' => (∃ u, e = .returned u ∧ Tab w' u halfT) ∧ Below w.heap.size w w' := by
  have h1 := ints_lit w [1, 1, 0, 0] (by unfold Fits; decide) 4 rfl (by omega)
  have hb1 : Below (w.alloc (.cells (ints [1, 1, 0, 0]).toArray 3)).heap.size (w.alloc (.cells (ints [1, 1, 0, 0]).toArray 3)) ((w.alloc (.cells (ints [1, 1, 0, 0]).toArray 3)).alloc (.cells (ints [0, 0, 1, 1]).toArray 3)) := (Below.refl _ _).alloc (Nat.le_refl _) _
  have h2 := ints_lit (w.alloc (.cells (ints [1, 1, 0, 0]).toArray 3)) [0, 0, 1, 1] (by unfold Fits; decide) 4 rfl (by omega)
  have h3 := tab_two _ _ _ _ _ (h1.below hb1) h2 (e := 24)
  have hb : Below w.heap.size w (((w.alloc (.cells (ints [1, 1, 0, 0]).toArray 3)).alloc (.cells (ints [0, 0, 1, 1]).toArray 3)).alloc (.cells #[.slice (some ⟨w.heap.size, 0, none⟩) 4 4, .slice (some ⟨(w.alloc (.cells (ints [1, 1, 0, 0]).toArray 3)).heap.size, 0, none⟩) 4 4] 24)) :=
    (((Below.refl _ _).alloc (Nat.le_refl _) _).alloc (by simp) _).alloc (by simp; omega) _
  simp only [World.size_alloc] at h3 hb
  have H3 := Lib.hid h3
  have HB := Lib.hid hb
  clear h1 hb1 h2 h3 hb
  go_enter Try.func27, Try.ntmps27
  go_wp2_with fail
  go_ret
  exact ⟨⟨_, rfl, H3.out⟩, HB.out⟩

def wakeT : List (List Int) := [[2], [1, 1], [1, 2, -1]]
theorem gens_half : gensE 2 halfT = (wakeT, 0) := by decide +kernel
theorem wake_tab (w : World) : Tab ((((w.alloc (.cells (ints [2]).toArray 3)).alloc (.cells (ints [1, 1]).toArray 3)).alloc (.cells (ints [1, 2, -1]).toArray 3)).alloc (.cells #[.slice (some ⟨w.heap.size, 0, none⟩) 1 1, .slice (some ⟨w.heap.size + 1, 0, none⟩) 2 2, .slice (some ⟨w.heap.size + 1 + 1, 0, none⟩) 3 3] 25)) (.slice (some ⟨w.heap.size + 1 + 1 + 1, 0, none⟩) 3 3) wakeT := by
  have h1 := ints_lit w [2] (by unfold Fits; decide) 1 rfl (by omega)
  have h2 := ints_lit (w.alloc (.cells (ints [2]).toArray 3)) [1, 1] (by unfold Fits; decide) 2 rfl (by omega)
  have h3 := ints_lit ((w.alloc (.cells (ints [2]).toArray 3)).alloc (.cells (ints [1, 1]).toArray 3)) [1, 2, -1] (by unfold Fits; decide) 3 rfl (by omega)
  have h4 := tab_three _ _ _ _ _ _ _ (h1.below (((Below.refl _ _).alloc (Nat.le_refl _) _).alloc (by simp) _)) (h2.below ((Below.refl _ _).alloc (Nat.le_refl _) _)) h3 (e := 25)
  simp only [World.size_alloc] at h4
  exact h4
theorem wake_below (w : World) : Below w.heap.size w ((((w.alloc (.cells (ints [2]).toArray 3)).alloc (.cells (ints [1, 1]).toArray 3)).alloc (.cells (ints [1, 2, -1]).toArray 3)).alloc (.cells #[.slice (some ⟨w.heap.size, 0, none⟩) 1 1, .slice (some ⟨w.heap.size + 1, 0, none⟩) 2 2, .slice (some ⟨w.heap.size + 1 + 1, 0, none⟩) 3 3] 25)) :=
  (((((Below.refl _ _).alloc (Nat.le_refl _) _).alloc (by simp) _).alloc (by simp; omega) _).alloc (by simp; omega) _)

set_option maxRecDepth 100000 in
set_option maxHeartbeats 1000000 in
theorem awake15_any (w : World) : Calls Try.prog 15 #[] w fun e w' => e = .returned (.bool true) ∧ Below w.heap.size w w' := by
  have HH := Lib.hid (half27_any w)
  have HG := Lib.hid (fun W u (h : Tab W u halfT) => (gens18_any W u 2 halfT h).mono fun e w' (⟨⟨v, h1, h2⟩, h3⟩ : GensPost 2 halfT W e w') => by
    rw [gens_half] at h1 h2
    exact (⟨⟨v, h1, h2⟩, h3⟩ : (∃ v, e = .returned (.tuple #[v, .int .i64 0]) ∧ TabB W.heap.size w' v wakeT) ∧ Below W.heap.size W w'))
  go_enter Try.func15, Try.ntmps15
  go_wp2_with (first
    | (go_at_call 27; (refine HH.out.mono ?_); rintro e w1 ⟨⟨u, rfl, hu⟩, hb⟩
       have HU := Lib.hid hu
       have HB1 := Lib.hid hb
       clear hu hb)
    | (go_at_call 18; (refine (HG.out _ _ HU.out).mono ?_); rintro e w2 ⟨⟨v, rfl, hv⟩, hb⟩
       have HV := Lib.hid hv.at_
       have HB2 := Lib.hid (HB1.out.trans (hb.mono HB1.out.size))
       obtain ⟨A, c, rfl⟩ := Tab.form HV.out
       clear hv hb)
    | (go_at_call 22; (refine (same22_any _ _ _ wakeT wakeT (kept_tab.below HV.out (wake_below w2)) (wake_tab w2)).mono ?_); rintro e w3 ⟨rfl, hb⟩
       have HB3 := Lib.hid ((HB2.out.trans ((wake_below w2).mono HB2.out.size)).trans (hb.mono (Nat.le_trans HB2.out.size (wake_below w2).size)))
       clear hb))
  go_ret
  exact ⟨rfl, HB3.out⟩
end Go.Proofs
namespace Go.Proofs
open Go.RowKit Go.Shelf Go.Proofs.Ct Go.Maps

theorem quiet_add_ex {P : Program} {f : FuncId} {args : Array Value} {w : World} {a n : Nat} {v : Value}
    (h : Calls P f args (w.drewN (a + n)) fun e w' => e = .returned v ∧ ∃ q, w' = (w.drewN (a + n)).drewN q) :
    Calls P f args (w.drewN (a + n)) fun e w'' => e = .returned v ∧ ∃ m, w'' = w.drewN (a + m) :=
  h.mono fun _ _ ⟨he, q, hm⟩ => ⟨he, n + q, by rw [hm, World.drewN_drewN, Nat.add_assoc]⟩
theorem wpList_valG {ops : Array Oper} {rest : List Oper} {o : Oper} {a : Act} {w w' : World} {Q : Exit → Act → World → Prop} {v : Value} (hg : Region.wanted o (yielded ops a.tmps) = true) (hrun : (execOp a.eval o).run Try.prog w = .ok (.value v) w') (h : wpList Try.prog ops Q rest (a.put o.dst v) w') : wpList Try.prog ops Q (o :: rest) a w :=
  BigFrame.wpList_want hg fun _ hK => by
    unfold Oper.wp
    rw [hrun]
    exact hK _ _ h
theorem LAt.cells' {α : Type} {R : World → Value → α → Prop} {d : α} {w : World} {v : Value} {xs : List α} (h : LAt R d w v xs) (A : Option Addr) (n c : Nat) (e : v = .slice A n c) : 0 < xs.length → ∃ b off, A = some ⟨b, off, none⟩ ∧ ∀ k, k < xs.length → ∃ u, w.cell? ⟨b, off + k, none⟩ = some u ∧ R w u (xs.getD k d) := by
  subst e
  exact h.cells

set_option maxRecDepth 100000 in
set_option maxHeartbeats 1000000 in
theorem equal80_any (w : World) (u v : Value) (x y : List Int) (hu : IntsAt w u x) (hv : IntsAt w v y) : Calls Try.prog 80 #[u, v] w fun e w' => e = .returned (.bool (decide (x = y))) ∧ ∃ q, w' = w.drewN q := by
  obtain ⟨A, c, rfl, h1, h2, h3⟩ := hu.open_
  obtain ⟨B, d, rfl, k1, k2, k3⟩ := hv.open_
  have HA := Lib.hid h3
  have HB := Lib.hid k3
  have hx0 : (0 : Int) ≤ (x.length : Int) := Int.natCast_nonneg _
  clear hu hv h3 k3
  by_cases hl : x.length = y.length
  · have d1 : ((x.length : Int) != (y.length : Int)) = false := by simp; omega
    have d2 : (x.length != y.length) = false := by simp; omega
    have HL := Lib.hid hl
    clear hl
    go_enter Try.func80, Try.ntmps80
    go_wp2_with fail
    go_loopw [5] (fun i wr => ∃ k : Nat, k ≤ x.length ∧ i = .int .i64 k ∧ Hid (∀ j, j < k → x.getD j 0 = y.getD j 0) ∧ ∃ q, wr = w.drewN q) (fun i _ => x.length - (intOf i).toNat)
    case atStart => exact ⟨0, Nat.zero_le _, rfl, Lib.hid fun j hj => absurd hj (by omega), 0, rfl⟩
    case round =>
      obtain ⟨k, hk, rfl, HZ, q, rfl⟩ := hrel
      have hk0 : (0 : Int) ≤ (k : Int) := Int.natCast_nonneg _
      by_cases hlt : k < x.length
      · obtain ⟨ba, oa, rfl, hca⟩ := HA.out (by omega)
        obtain ⟨bb, ob, rfl, hcb⟩ := HB.out (by rw [← HL.out]; omega)
        have hx1 := hca k hlt
        have hx2 := hcb k (by rw [← HL.out]; omega)
        have hka : (k : Int) < (x.length : Int) := by omega
        have hkb : (k : Int) < (y.length : Int) := by rw [← HL.out]; omega
        have HK : Hid (x.getD k 0 = y.getD k 0 → ∀ j, j < k + 1 → x.getD j 0 = y.getD j 0) := Lib.hid fun h => all_succ HZ.out h
        have HN : Hid (x.getD k 0 ≠ y.getD k 0 → x ≠ y) := Lib.hid fun h => getD_ne h
        clear hca hcb
        generalize x.getD k 0 = s at *
        generalize y.getD k 0 = t at *
        by_cases hst : s = t
        · have d5 : (s != t) = false := by simpa using hst
          have HK2 := Lib.hid (HK.out hst)
          clear hst HK HN
          go_wp2_with fail
          go_quiet (fail)
          go_wp2_with fail
          go_roundw
          case rel => exact ⟨k + 1, by omega, by go_num, HK2, (by first | exact ⟨_, rfl⟩ | exact ex_drewN)⟩
          case measure => simp [intOf]; omega
        · have d5 : (s != t) = true := by simpa using hst
          have HD : Hid (decide (x = y) = false) := Lib.hid (decide_eq_false (HN.out hst))
          clear hst HK HN
          go_wp2_with fail
          go_quiet (fail)
          go_wp2_with fail
          go_ret
          exact ⟨ret_bool HD.out.symm, (by first | exact ⟨_, rfl⟩ | exact ex_drewN)⟩
      · obtain rfl : k = x.length := by omega
        have HD : Hid (decide (x = y) = true) := Lib.hid (decide_eq_true (getD_ext HL.out HZ.out))
        go_wp2_with fail
        go_ret
        exact ⟨ret_bool HD.out.symm, (by first | exact ⟨_, rfl⟩ | exact ex_drewN)⟩
  · have d1 : ((x.length : Int) != (y.length : Int)) = true := by simp; omega
    have d2 : (x.length != y.length) = true := by simp; omega
    have HD : Hid (decide (x = y) = false) := Lib.hid (decide_eq_false fun h => hl (by rw [h]))
    clear hl
    go_enter Try.func80, Try.ntmps80
    go_wp2_with fail
    go_ret
    exact ⟨ret_bool HD.out.symm, 0, rfl⟩

set_option maxRecDepth 100000 in
set_option maxHeartbeats 2000000 in
theorem same26_any (w : World) (va vb : Value) (g1 g2 : Int) (A B : List (List Int)) (ha : Tab w va A) (hb : Tab w vb B) :
    Calls Try.prog 26 #[.agg #[.int .i64 g1, va], .agg #[.int .i64 g2, vb]] w fun e w' => e = .returned (.bool (decide (g1 = g2 ∧ A = B))) ∧ Below w.heap.size w w' := by
  obtain ⟨A0, ca, rfl, ha1, ha2, ha3⟩ := ha.open_
  obtain ⟨B0, cb, rfl, hb1, hb2, hb3⟩ := hb.open_
  have hbel : Below w.heap.size w ((w.alloc (.cells #[.int .i64 g1, .slice A0 A.length ca] 40)).alloc (.cells #[.int .i64 g2, .slice B0 B.length cb] 40)) := ((Below.refl _ _).alloc (Nat.le_refl _) _).alloc (by simp) _
  have hn1 : ((w.alloc (.cells #[.int .i64 g1, .slice A0 A.length ca] 40)).alloc (.cells #[.int .i64 g2, .slice B0 B.length cb] 40)).heap[w.heap.size]? = some (.cells #[.int .i64 g1, .slice A0 A.length ca] 40 (0, 0)) := (Below.heap_alloc (w.alloc _) _ w.heap.size (by simp)).trans (heap_alloc_new w _)
  have hn2 : ((w.alloc (.cells #[.int .i64 g1, .slice A0 A.length ca] 40)).alloc (.cells #[.int .i64 g2, .slice B0 B.length cb] 40)).heap[w.heap.size + 1]? = some (.cells #[.int .i64 g2, .slice B0 B.length cb] 40 (0, 0)) := by
    have := heap_alloc_new (w.alloc (.cells #[.int .i64 g1, .slice A0 A.length ca] 40)) (.cells #[.int .i64 g2, .slice B0 B.length cb] 40); rwa [World.size_alloc] at this
  obtain ⟨p0, p1⟩ := cell_of2 hn1
  obtain ⟨q0, q1⟩ := cell_of2 hn2
  have HA := Lib.hid ha3
  have HB := Lib.hid hb3
  have HBE := Lib.hid hbel
  have hA0 : (0 : Int) ≤ (A.length : Int) := Int.natCast_nonneg _
  clear ha hb ha3 hb3 hbel hn1 hn2
  by_cases hg : g1 = g2
  · have e1 : (g1 != g2) = false := by simpa using hg
    by_cases hl : A.length = B.length
    · have d1 : ((A.length : Int) != (B.length : Int)) = false := by simp; omega
      have d2 : (A.length != B.length) = false := by simp; omega
      have HL := Lib.hid hl
      have HG := Lib.hid hg
      clear hl hg
      go_enter Try.func26, Try.ntmps26
      go_wp2_with fail
      generalize hw0 : (w.alloc (.cells #[.int .i64 g1, .slice A0 A.length ca] 40)).alloc (.cells #[.int .i64 g2, .slice B0 B.length cb] 40) = w0 at *
      clear hw0
      go_loopw [5] (fun i wr => ∃ k : Nat, k ≤ A.length ∧ i = .int .i64 k ∧ Hid (∀ j, j < k → A.getD j [] = B.getD j []) ∧ ∃ q, wr = w0.drewN q) (fun i _ => A.length - (intOf i).toNat)
      case atStart => exact ⟨0, Nat.zero_le _, rfl, Lib.hid fun j hj => absurd hj (by omega), 0, rfl⟩
      case round =>
        obtain ⟨k, hk, rfl, HZ, q, rfl⟩ := hrel
        by_cases hlt : k < A.length
        · obtain ⟨b1, o1, rfl, hc1⟩ := HA.out (by omega)
          obtain ⟨b2, o2, rfl, hc2⟩ := HB.out (by rw [← HL.out]; omega)
          obtain ⟨u1, hu1, hr1⟩ := hc1 k hlt
          obtain ⟨u2, hu2, hr2⟩ := hc2 k (by rw [← HL.out]; omega)
          have hz1 := (HBE.out.cell (p := ⟨b1, o1 + k, none⟩) (World.block_lt_of_cell? w _ hu1)).trans hu1
          have hz2 := (HBE.out.cell (p := ⟨b2, o2 + k, none⟩) (World.block_lt_of_cell? w _ hu2)).trans hu2
          have hi1 := hr1.below HBE.out
          have hi2 := hr2.below HBE.out
          have hk0 : (0 : Int) ≤ (k : Int) := Int.natCast_nonneg _
          have hkb : (k : Int) < (B.length : Int) := by rw [← HL.out]; omega
          have hka : (k : Int) < (A.length : Int) := by omega
          have HEQ : Hid (∀ n, Calls Try.prog 80 #[u1, u2] (w0.drewN n) fun e w' => e = .returned (.bool (decide (A.getD k [] = B.getD k []))) ∧ ∃ q, w' = (w0.drewN n).drewN q) := Lib.hid fun n => equal80_any _ _ _ _ _ (hi1.drewN n) (hi2.drewN n)
          have HN : Hid (A.getD k [] ≠ B.getD k [] → A ≠ B) := Lib.hid (fun h => getD_ne (A := A) (B := B) (d := []) (k := k) h)
          have HK : Hid (A.getD k [] = B.getD k [] → ∀ j, j < k + 1 → A.getD j [] = B.getD j []) := Lib.hid (fun h => all_succ HZ.out h)
          obtain ⟨A3, c3, rfl, -, -, -⟩ := hr1.open_
          obtain ⟨A4, c4, rfl, -, -, -⟩ := hr2.open_
          clear hc1 hc2 hr1 hr2 hu1 hu2 hi1 hi2
          generalize A.getD k [] = x at *
          generalize B.getD k [] = y at *
          by_cases hxy : x = y
          · have HE : Hid (decide (x = y) = true) := Lib.hid (decide_eq_true hxy)
            have HK2 := Lib.hid (HK.out hxy)
            rw [HE.out] at HEQ
            clear hxy HN HK
            go_wp2_with fail
            go_quiet ((go_at_call 80; exact quiet_add_ex (HEQ.out _)))
            go_wp2_with fail
            go_roundw
            case rel => exact ⟨k + 1, by omega, by go_num, HK2, (by first | exact ⟨_, rfl⟩ | exact ex_drewN)⟩
            case measure => simp [intOf]; omega
          · have HE : Hid (decide (x = y) = false) := Lib.hid (decide_eq_false hxy)
            have HD : Hid (decide (g1 = g2 ∧ A = B) = false) := Lib.hid (decide_eq_false fun h => HN.out hxy h.2)
            rw [HE.out] at HEQ
            clear hxy HN HK
            go_wp2_with fail
            go_quiet ((go_at_call 80; exact quiet_add_ex (HEQ.out _)))
            go_wp2_with fail
            go_ret
            exact ⟨ret_bool HD.out.symm, below_drewN (below_drewN HBE.out _) _⟩
        · obtain rfl : k = A.length := by omega
          have HD : Hid (decide (g1 = g2 ∧ A = B) = true) := Lib.hid (decide_eq_true ⟨HG.out, getD_ext HL.out HZ.out⟩)
          go_wp2_with fail
          go_ret
          exact ⟨ret_bool HD.out.symm, below_drewN HBE.out _⟩
    · have d1 : ((A.length : Int) != (B.length : Int)) = true := by simp; omega
      have d2 : (A.length != B.length) = true := by simp; omega
      have HD : Hid (decide (g1 = g2 ∧ A = B) = false) := Lib.hid (decide_eq_false fun h => hl (by rw [h.2]))
      clear hl hg
      go_enter Try.func26, Try.ntmps26
      go_wp2_with fail
      go_ret
      exact ⟨ret_bool HD.out.symm, HBE.out⟩
  · have e1 : (g1 != g2) = true := by simpa using hg
    have HD : Hid (decide (g1 = g2 ∧ A = B) = false) := Lib.hid (decide_eq_false fun h => hg h.1)
    clear hg
    go_enter Try.func26, Try.ntmps26
    go_wp2_with fail
    go_ret
    exact ⟨ret_bool HD.out.symm, HBE.out⟩

set_option maxRecDepth 100000 in
set_option maxHeartbeats 2000000 in
theorem presents_walk (w : World) (g : Int) (vr vt : Value) (rels : List W) (t : Tb) (hR : Tab w vr rels) (ht : Tab w vt t) :
    Calls Try.prog 4 #[.agg #[.int .i64 g, vr], vt] w fun e w' => e = .returned (.bool true) ∧ Below w.heap.size w w' := by
  have hb0 : Below w.heap.size w (w.alloc (.cells #[.int .i64 g, vr] 40)) := (Below.refl _ _).alloc (Nat.le_refl _) _
  have hnew := heap_alloc_new w (.cells #[.int .i64 g, vr] 40)
  obtain ⟨p0, p1⟩ := cell_of2 hnew
  have HV := Lib.hid (vast14_any (w.alloc (.cells #[.int .i64 g, vr] 40)) vt t (kept_tab.below ht hb0))
  have HRC := Lib.hid hR.cells'
  have hrl1 := hR.len_le
  have HR := Lib.hid hR
  have HT := Lib.hid ht
  have HB0 := Lib.hid hb0
  have HNW := Lib.hid hnew
  obtain ⟨Ar, cr, rfl⟩ := Tab.form hR
  obtain ⟨A, c, rfl⟩ := Tab.form ht
  have hrl0 : (0 : Int) ≤ (rels.length : Int) := Int.natCast_nonneg _
  clear hR ht hb0 hnew
  by_cases h20 : 20 < rels.length
  · have h20' : (20 : Int) < (rels.length : Int) := by omega
    clear h20
    go_enter Try.func4, Try.ntmps4
    go_wp2_with (go_at_call 15; (refine (awake15_any _).mono ?_); rintro e w3 ⟨rfl, hb⟩; have HB := Lib.hid hb; clear hb)
    go_ret
    exact ⟨rfl, HB0.out.trans (HB.out.mono HB0.out.size)⟩
  · have h20' : ¬ (20 : Int) < (rels.length : Int) := by omega
    have hrl2 : (rels.length : Int) ≤ 20 := by omega
    clear h20
    go_enter Try.func4, Try.ntmps4
    go_wp2_with fail
    refine HV.out.mono ?_
    rintro e w0 ⟨⟨b, rfl⟩, rfl⟩
    cases b with
    | true =>
      go_wp2_with (go_at_call 15; (refine (awake15_any _).mono ?_); rintro e w3 ⟨rfl, hb⟩; have HB := Lib.hid hb; clear hb)
      go_ret
      exact ⟨rfl, HB0.out.trans (HB.out.mono HB0.out.size)⟩
    | false =>
      go_wp2_with fail
      generalize hw0 : w.alloc (.cells #[.int .i64 g, .slice Ar rels.length cr] 40) = w0 at *
      clear hw0
      go_loopw [5] (fun i wr => ∃ k : Nat, i = .int .i64 k ∧ k ≤ rels.length ∧ Hid (∀ j, j < k → (rels.getD j []).length ≤ 300) ∧ wr = w0) (fun i _ => rels.length - (intOf i).toNat)
      case atStart => exact ⟨0, rfl, by omega, Lib.hid fun j hj => absurd hj (by omega), rfl⟩
      case round =>
        obtain ⟨k, rfl, hk, HZ, rfl⟩ := hrel
        have hk0 : (0 : Int) ≤ (k : Int) := Int.natCast_nonneg _
        by_cases hlt : k < rels.length
        · have hlt' : (k : Int) < (rels.length : Int) := by omega
          obtain ⟨b, o, e, hcc⟩ := HRC.out _ _ _ rfl (by omega)
          subst e
          obtain ⟨u, hu, hI⟩ := hcc k hlt
          have hu' := (HB0.out.cell (p := ⟨b, o + k, none⟩) (World.block_lt_of_cell? w _ hu)).trans hu
          obtain ⟨Au, cu, rfl, -, -, -⟩ := hI.open_
          have HN : Hid ((rels.getD k []).length ≤ 300 → ∀ j, j < k + 1 → (rels.getD j []).length ≤ 300) := Lib.hid fun h => all_succ HZ.out h
          clear hcc hu hI
          generalize (rels.getD k []).length = L at *
          by_cases hL : 300 < L
          · have hL' : (300 : Int) < (L : Int) := by omega
            clear hL
            go_wp2_with (go_at_call 15; (refine (awake15_any _).mono ?_); rintro e w3 ⟨rfl, hb⟩; have HB := Lib.hid hb; clear hb)
            go_ret
            exact ⟨rfl, HB0.out.trans (HB.out.mono HB0.out.size)⟩
          · have hL' : ¬ (300 : Int) < (L : Int) := by omega
            have HN2 := Lib.hid (HN.out (by omega))
            clear hL
            go_wp2_with fail
            go_roundw
            case rel => exact ⟨k + 1, by go_num, by omega, HN2, (by first | trivial | rfl)⟩
            case measure => simp [intOf]; omega
        · obtain rfl : k = rels.length := by omega
          have hsm : ∀ j, (rels.getD j []).length ≤ 100000 := fun j => by
            rcases Nat.lt_or_ge j rels.length with h | h
            · have := HZ.out j h; omega
            · rw [List.getD_eq_getElem?_getD, List.getElem?_eq_none h]; simp
          have H24 : Hid (∀ W, Below w.heap.size w W → Calls Try.prog 24 #[.agg #[.int .i64 g, .slice Ar rels.length cr], .slice A t.length c] W (PresentPost g rels t W)) := Lib.hid fun W h => present24_any W _ _ g rels t (kept_tab.below HR.out h) (kept_tab.below HT.out h)
          have H25 : Hid (∀ W, Below w.heap.size w W → Calls Try.prog 25 #[.agg #[.int .i64 g, .slice Ar rels.length cr], .slice A t.length c] W (PresentPost g rels t W)) := Lib.hid fun W h => present25_any W _ _ g rels t (kept_tab.below HR.out h) (kept_tab.below HT.out h) hsm
          have H26 : Hid (∀ (W : World) (a b : Value), Tab W a (presentE g rels t).1.2 → Tab W b (presentE g rels t).1.2 → Calls Try.prog 26 #[.agg #[.int .i64 (presentE g rels t).1.1, a], .agg #[.int .i64 (presentE g rels t).1.1, b]] W fun e w'' => e = .returned (.bool true) ∧ Below W.heap.size W w'') := Lib.hid fun W a b h1 h2 => (same26_any W a b _ _ _ _ h1 h2).mono fun e w'' ⟨h, h'⟩ => ⟨h.trans (ret_bool (decide_eq_true ⟨rfl, rfl⟩)), h'⟩
          have HBZ : Hid (Below w.heap.size w wr) := HB0
          have HPB : Hid (wr.heap[w.heap.size]? = some (.cells #[.int .i64 g, .slice Ar rels.length cr] 40 (0, 0))) := HNW
          unfold PresentPost at H24 H25
          clear hsm HZ HV HRC HB0 HNW
          generalize (presentE g rels t).1.1 = m at *
          generalize (presentE g rels t).1.2 = R at *
          generalize (presentE g rels t).2 = x at *
          go_wp2_with (first
            | ((with_reducible refine wpList_sel 35 ?_); refine wpList_val rfl (r_loadAt 40 (.tmp 2) _ _ rfl rfl (load40 HPB.out)) ?_)
            | (go_at_call 24; (with_reducible refine (H24.out _ HBZ.out).mono ?_); rintro e w1 ⟨⟨u1, rfl, hu1⟩, hb⟩
               obtain ⟨A1, c1, rfl⟩ := Tab.form hu1
               have HU1 := Lib.hid (kept_tab.below hu1 (below_boxed (Below.refl w1.heap.size w1) (.cells zero40 40) #[.int .i64 m, .slice A1 R.length c1]))
               have HN1 := Lib.hid (heap_alloc_new w1 (.cells zero40 40))
               have HB1 := Lib.hid (hb.trans ((below_boxed (Below.refl w1.heap.size w1) (.cells zero40 40) #[.int .i64 m, .slice A1 R.length c1]).mono hb.size))
               have HX1 := Lib.hid (setRow_heap (w1.alloc (.cells zero40 40)) w1.heap.size zero40 #[.int .i64 m, .slice A1 R.length c1] 40 (0, 0) HN1.out)
               have HP1 := Lib.hid ((HB1.out.block _ (Array.getElem?_eq_some_iff.1 HPB.out).1).trans HPB.out)
               have HBW1 := Lib.hid (HBZ.out.trans (HB1.out.mono HBZ.out.size))
               clear hb hu1)
            | ((with_reducible refine wpList_sel 6 ?_); refine wpList_val rfl (r_alloc40 rfl) ?_; refine wpList_skip rfl (r_store40 (.tmp 6) (.tmp 38) rfl w1.heap.size zero40 #[.int .i64 m, .slice A1 R.length c1] rfl rfl HN1.out rfl rfl (one40 _ _ _ _)) ?_)
            | ((with_reducible refine wpList_sel 41 ?_); refine wpList_val rfl (r_loadAt 40 (.tmp 2) _ _ rfl rfl (load40 HP1.out)) ?_)
            | (go_at_call 25; (with_reducible refine (H25.out _ HBW1.out).mono ?_); rintro e w2 ⟨⟨u2, rfl, hu2⟩, hb⟩
               obtain ⟨A2, c2, rfl⟩ := Tab.form hu2
               have HU2 := Lib.hid (kept_tab.below hu2 (below_boxed (Below.refl w2.heap.size w2) (.cells zero40 40) #[.int .i64 m, .slice A2 R.length c2]))
               have HN2 := Lib.hid (heap_alloc_new w2 (.cells zero40 40))
               have HB2 := Lib.hid (hb.trans ((below_boxed (Below.refl w2.heap.size w2) (.cells zero40 40) #[.int .i64 m, .slice A2 R.length c2]).mono hb.size))
               have HU12 := Lib.hid (kept_tab.below HU1.out HB2.out)
               have HX12 := Lib.hid ((HB2.out.block _ (Array.getElem?_eq_some_iff.1 HX1.out).1).trans HX1.out)
               have HX2 := Lib.hid (setRow_heap (w2.alloc (.cells zero40 40)) w2.heap.size zero40 #[.int .i64 m, .slice A2 R.length c2] 40 (0, 0) HN2.out)
               have HBW2 := Lib.hid (HBW1.out.trans (HB2.out.mono HBW1.out.size))
               clear hb hu2)
            | ((with_reducible refine wpList_sel 8 ?_); refine wpList_val rfl (r_alloc40 rfl) ?_; refine wpList_skip rfl (r_store40 (.tmp 8) (.tmp 44) rfl w2.heap.size zero40 #[.int .i64 m, .slice A2 R.length c2] rfl rfl HN2.out rfl rfl (one40 _ _ _ _)) ?_)
            | ((with_reducible refine wpList_sel 50 ?_); refine wpList_valG (by rfl) (r_loadAt 40 (.tmp 6) _ _ rfl rfl (load40 HX12.out)) ?_)
            | ((with_reducible refine wpList_sel 51 ?_); refine wpList_valG (by rfl) (r_loadAt 40 (.tmp 8) _ _ rfl rfl (load40 HX2.out)) ?_)
            | (go_at_call 26; (with_reducible refine (H26.out _ _ _ HU12.out HU2.out).mono ?_); rintro e w3 ⟨rfl, hb⟩
               have HB3 := Lib.hid (HBW2.out.trans (hb.mono HBW2.out.size))
               clear hb)
            | (go_at_call 15; (refine (awake15_any _).mono ?_); rintro e w4 ⟨rfl, hb⟩
               have HB4 := Lib.hid (HB3.out.trans (hb.mono HB3.out.size))
               clear hb))
          go_ret
          exact ⟨rfl, HB4.out⟩
end Go.Proofs
namespace Go.Proofs
open Go.RowKit Go.ChangeShapes Go.WideShapes Go.ChangeAt Go.Deep

section
variable {H : Type} {enc : TypeId × Value → H} {W : World}
theorem spot_none {a : Addr} {v : Value} (h : W.cell? (a.add 0) = some v) : a = ⟨a.block, a.off, none⟩ := by
  obtain ⟨b, o, s⟩ := a
  cases s with
  | none => rfl
  | some q =>
    exfalso
    have e : ({ block := b, off := o, spot := some q } : Addr).add 0 = { block := b, off := o, spot := some q } := by unfold Addr.add; rw [if_pos rfl]
    rw [e] at h
    unfold World.cell? at h
    simp only [Option.isSome_some, if_true] at h
    split at h <;> cases h
theorem wf_fits {x : Int} (h : (Lit.int .i64 x).wf = true) : -9223372036854775808 ≤ x ∧ x ≤ 9223372036854775807 := by
  simpa [Lit.wf, IntKind.min, IntKind.max, IntKind.signed, IntKind.bits] using h
theorem lat_of_trod {α : Type} {R : World → Value → α → Prop} {d : α} {t e : TypeId} {base fuel : Nat} {spare : Nat → Bool} {held : Bool} {v : Value} {x : DataW H × List MemPlace} (ht : Try.prog.underlying t = some (.slice e)) (hc : Try.prog.cellsOf e = 1)
    (hR : ∀ n u y, DataW.trod enc Try.prog W base spare held n e [u] = some y → ∃ z, R W u z) (h : DataW.trod enc Try.prog W base spare held fuel t [v] = some x) : ∃ xs, LAt R d W v xs := by
  rcases open_slice1 ht hc h with ⟨hv, -⟩ | ⟨a, len, cap, m, n, V, D, Pl, hv, -, hl, hm, hmm, -, hx⟩
  · obtain rfl : v = .slice none 0 0 := by simpa using hv
    exact ⟨[], [], ⟨none, 0, 0, rfl, rfl, Nat.le_refl _, by simp [maxLen], fun h => absurd h (by simp)⟩, rfl, fun i hi => absurd hi (by simp)⟩
  · obtain rfl : v = .slice (some a) len cap := by simpa using hv
    have hlm : len ≤ m := by rw [hmm]; split <;> omega
    have hz : ∀ i, i < len → ∃ z, R W (V i) z := fun i hi => hR n (V i) _ (hx i (by omega)).2
    have hf : ∃ f : Nat → α, ∀ i, i < len → R W (V i) (f i) := by
      have hz' : ∀ i, ∃ z, i < len → R W (V i) z := fun i => by
        by_cases hi : i < len
        · obtain ⟨z, hz⟩ := hz i hi; exact ⟨z, fun _ => hz⟩
        · exact ⟨d, fun h => absurd h hi⟩
      exact ⟨fun i => Classical.choose (hz' i), fun i => Classical.choose_spec (hz' i)⟩
    obtain ⟨f, hf⟩ := hf
    refine ⟨(List.range len).map f, (List.range len).map V, ⟨_, len, cap, rfl, by simp, hl, hm, fun h0 => ?_⟩, by simp, fun i hi => ?_⟩
    · have hsp := spot_none (hx 0 (by omega)).1
      refine ⟨a.block, a.off, by rw [← hsp], fun j u hu => ?_⟩
      have hj : j < len := by have := (List.getElem?_eq_some_iff.1 hu).1; simpa using this
      have := (hx j (by omega)).1
      rw [hsp, Addr.add_lit] at this
      rw [this, ← hu]
      simp [List.getElem?_range hj]
    · have hi' : i < len := by simpa using hi
      refine ⟨V i, by simp [List.getElem?_range hi'], ?_⟩
      have : ((List.range len).map f).getD i d = f i := by simp [List.getD_eq_getElem?_getD, List.getElem?_range hi']
      rw [this]
      exact hf i hi'
theorem intsT_of_trod {t : TypeId} (ht : Try.prog.underlying t = some (.slice 3)) {base fuel : Nat} {spare : Nat → Bool} {held : Bool} {v : Value} {x : DataW H × List MemPlace} (h : DataW.trod enc Try.prog W base spare held fuel t [v] = some x) : ∃ xs, IntsAt W v xs := by
  obtain ⟨xs, vs, hS, hl, he⟩ := lat_of_trod (R := fun _ u z => u = .int .i64 z ∧ (Lit.int .i64 z).wf = true) (d := 0) ht (by kernel_rfl) (fun n u y hy => by
    obtain ⟨m, hu, -, hw⟩ := DataW.trod_int Try.underlying3 hy
    exact ⟨m, by simpa using hu, hw⟩) h
  have hvs : vs = ints xs := by
    apply List.ext_getElem (by simpa [ints] using hl)
    intro i h1 h2
    obtain ⟨u, hu, rfl, -⟩ := he i (by omega)
    have hi : i < xs.length := by omega
    rw [List.getElem?_eq_getElem h1] at hu
    rw [Option.some.inj hu]
    simp [ints, List.getD_eq_getElem?_getD, hi]
  refine ⟨xs, hvs ▸ hS, fun z hz => ?_⟩
  obtain ⟨i, hi, rfl⟩ := List.getElem_of_mem hz
  obtain ⟨u, -, -, hw⟩ := he i hi
  have e : xs.getD i 0 = xs[i] := by simp [List.getD_eq_getElem?_getD, hi]
  rw [e] at hw
  exact wf_fits hw
theorem ints_of_trod {base fuel : Nat} {spare : Nat → Bool} {held : Bool} {v : Value} {x : DataW H × List MemPlace} (h : DataW.trod enc Try.prog W base spare held fuel 24 [v] = some x) : ∃ xs, IntsAt W v xs := intsT_of_trod Try.underlying24 h
theorem word_of_trod {base fuel : Nat} {spare : Nat → Bool} {held : Bool} {v : Value} {x : DataW H × List MemPlace} (h : DataW.trod enc Try.prog W base spare held fuel 25 [v] = some x) : ∃ xs, IntsAt W v xs := intsT_of_trod Try.underlying25 h
theorem tab_of_trod {base fuel : Nat} {spare : Nat → Bool} {held : Bool} {v : Value} {x : DataW H × List MemPlace} (h : DataW.trod enc Try.prog W base spare held fuel 23 [v] = some x) : ∃ L, Tab W v L :=
  lat_of_trod Try.underlying23 (by kernel_rfl) (fun _ _ _ hy => ints_of_trod hy) h
theorem words_of_trod {base fuel : Nat} {spare : Nat → Bool} {held : Bool} {v : Value} {x : DataW H × List MemPlace} (h : DataW.trod enc Try.prog W base spare held fuel 31 [v] = some x) : ∃ L, Tab W v L :=
  lat_of_trod Try.underlying31 (by kernel_rfl) (fun _ _ _ hy => word_of_trod hy) h
end
end Go.Proofs
namespace Go.Proofs
open Go.RowKit Go.ChangeShapes Go.WideShapes Go.ChangeAt Go.Deep

section
variable {H : Type} {enc : TypeId × Value → H} {W : World}
theorem cells40p : Try.prog.cellsOf 40 = 2 := by kernel_rfl
theorem cells3p : Try.prog.cellsOf 3 = 1 := by kernel_rfl
theorem cells31p : Try.prog.cellsOf 31 = 1 := by kernel_rfl
set_option maxRecDepth 100000 in
theorem pres_of_trod {base : Nat} {spare : Nat → Bool} {held : Bool} {v : Value} {d : DataW H} {ps : List MemPlace} (h : DataW.Trod enc Try.prog W base spare held 40 v d ps) : ∃ g a1 P, v = .agg #[.int .i64 g, a1] ∧ Tab W a1 P := by
  obtain ⟨fuel, hf⟩ := h
  obtain ⟨y0, y1, n, -, hlen, h0, h1⟩ := trod_struct2 Try.underlying40 hf
  rw [cells40p] at hlen
  obtain ⟨cs, rfl⟩ : ∃ cs, v = .agg cs := by
    cases v <;> simp [Value.cells] at hlen
    exact ⟨_, rfl⟩
  have hcs : cs.toList.length = 2 := hlen
  obtain ⟨l⟩ := cs
  match l, hcs with
  | [a0, a1], _ =>
    simp [Value.cells, cells3p, cells31p] at h0 h1
    obtain ⟨m, hu, -, hw⟩ := DataW.trod_int Try.underlying3 h0
    obtain ⟨L, hL⟩ := words_of_trod h1
    have e : a0 = .int .i64 m := by simpa using hu
    subst e
    exact ⟨m, a1, L, rfl, hL⟩
end
end Go.Proofs
