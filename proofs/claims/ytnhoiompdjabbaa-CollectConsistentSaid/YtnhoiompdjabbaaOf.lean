/- The contract of collect.of. -/
import Derived.Test.YtnhoiompdjabbaaChk0
import Derived.Test.YtnhoiompdjabbaaOf0
namespace Go.Proofs
open Go.RowKit Go.Proofs.Pc

set_option maxRecDepth 100000 in
set_option maxHeartbeats 1000000 in
theorem of_bad (w : World) (v0 v1 v2 : Value) (P : PcD) (hP : PcAt w v0 v1 v2 P) (he : (checkD P).1 ≠ 0) :
    Calls Try.prog 47 #[.agg #[v0, v1, v2]] w fun e w' => e = .returned (.tuple #[.pointer none, .int .i64 (checkD P).1]) ∧ Below w.heap.size w w' := by
  have d1 : ((checkD P).1 != 0) = true := by simp [he]
  have HP := Lib.hid hP
  clear hP he
  go_enter Try.func47, Try.ntmps47
  go_wp2_with (go_at_call 23; refine (check_any _ v0 v1 v2 P (HP.out.below ((Below.refl _ _).alloc (Nat.le_refl _) _))).mono ?_; rintro e w' ⟨rfl, hb⟩)
  go_ret2
  exact ⟨rfl, ((Below.refl _ _).alloc (Nat.le_refl _) _).trans (hb.mono (by simp))⟩

/-- after k generators -/
def RulK (w : World) (br : Nat) (P : PcD) (a k m : Nat) : Prop := Rul w br P.orders.length P.orders (fun i => if i < a then P.pow i else []) (fun j i => if j < k ∨ (j = k ∧ i < m) then P.cj j i else [])

set_option maxRecDepth 100000 in
set_option maxHeartbeats 1000000 in
theorem of_good (w : World) (v0 v1 v2 : Value) (P : PcD) (hP : PcAt w v0 v1 v2 P) (he : (checkD P).1 = 0) :
    Calls Try.prog 47 #[.agg #[v0, v1, v2]] w fun e w' => (∃ br, e = .returned (.tuple #[.pointer (some ⟨br, 0, none⟩), .int .i64 0]) ∧ RulesAt w' br P ∧ w.heap.size ≤ br) ∧ Below w.heap.size w w' := by
  have hv := valid_of_check he
  have hn12 := hv.n12
  have d1 : ((checkD P).1 != 0) = false := by simp [he]
  have HP := Lib.hid hP
  obtain ⟨A0, c0, rfl, ha1, ha2, _⟩ := hP.1.open_
  obtain ⟨A1, c1, rfl, hb1, hb2, hbo⟩ := hP.2.1.open_
  obtain ⟨A2, c2, rfl, hc1, hc2, hco⟩ := hP.2.2.open_
  have HB1 := Lib.hid hbo
  have HC1 := Lib.hid hco
  have HNP := Lib.hid hv.npow
  have HNC := Lib.hid hv.ncj
  clear hP he hbo hco
  go_enter Try.func47, Try.ntmps47
  go_wp2_with (go_at_call 23; refine (check_any _ _ _ _ P (HP.out.below ((Below.refl _ _).alloc (Nat.le_refl _) _))).mono ?_; rintro e w2 ⟨rfl, hb⟩; have hp0 : w2.cell? ⟨w.heap.size, 0, none⟩ = some (.slice A0 P.orders.length c0) := (hb.cell (p := ⟨w.heap.size, 0, none⟩) (by simp)).trans (cell_of_row _ _ 0 _ _ _ (heap_alloc_new w _)))
  have hp1 : w2.cell? ⟨w.heap.size, 1, none⟩ = some (.slice A1 P.powers.length c1) := (hb.cell (p := ⟨w.heap.size, 1, none⟩) (by simp)).trans (cell_of_row _ _ 1 _ _ _ (heap_alloc_new w _))
  have hp2 : w2.cell? ⟨w.heap.size, 2, none⟩ = some (.slice A2 P.conj.length c2) := (hb.cell (p := ⟨w.heap.size, 2, none⟩) (by simp)).trans (cell_of_row _ _ 2 _ _ _ (heap_alloc_new w _))
  have hbw : Below w.heap.size w w2 := ((Below.refl _ w).alloc (Nat.le_refl _) _).trans (hb.mono (by simp))
  have hsz := World.block_lt_of_cell? w2 _ hp0
  have hrz := Rul.new w2 (P.orders.length : Int)
  have hbw3 : Below w.heap.size w (w2.alloc (.cells (Try.zeroCells86.setIfInBounds 0 (.int .i64 (P.orders.length : Int))) 86)) := hbw.alloc hbw.size _
  have hcp := copy12 (w := (w2.alloc (.cells (Try.zeroCells86.setIfInBounds 0 (.int .i64 (P.orders.length : Int))) 86)).drew) (b := w2.heap.size) (o := 1) (HP.out.1.below hbw3.drew) hn12 (hrz.there 1 (by omega))
  simp only [setCells_drew] at hcp
  have HRZ := Lib.hid (hrz.setOrd (xs := P.orders) hn12)
  have HBW := Lib.hid hbw
  clear hb hbw hrz hbw3
  go_region
  have hR3 : RulK ((w2.alloc (.cells (Try.zeroCells86.setIfInBounds 0 (.int .i64 (P.orders.length : Int))) 86)).setCells w2.heap.size 1 (ints P.orders)).drew w2.heap.size P 0 0 0 := by
    unfold RulK
    exact Rul.congr (Rul.block HRZ.out rfl) (fun i _ => by simp) (fun j i _ _ => by simp)
  have hG3 : w2.grownBy ((w2.alloc (.cells (Try.zeroCells86.setIfInBounds 0 (.int .i64 (P.orders.length : Int))) 86)).setCells w2.heap.size 1 (ints P.orders)).drew (some w2.heap.size) := only_drew (only_trans (World.grownBy_alloc w2 _ _) (grownBy_setCells _ _ _ _))
  generalize ((w2.alloc (.cells (Try.zeroCells86.setIfInBounds 0 (.int .i64 (P.orders.length : Int))) 86)).setCells w2.heap.size 1 (ints P.orders)).drew = w3 at *
  have hn3 := hR3.n
  generalize hbr : w2.heap.size = br at *
  have HR3 := Lib.hid hR3
  have HG3 := Lib.hid hG3
  have HBR := Lib.hid hbr
  clear hcp hR3 hG3 hbr
  go_wp2_with fail
  go_loopw [7, 34] (fun _ i wr => ∃ k : Nat, k ≤ P.n ∧ i = .int .i64 k ∧ RulK wr br P k k 0 ∧ w2.grownBy wr (some br)) (fun _ i _ => P.n - (intOf i).toNat)
  case atStart => exact ⟨0, Nat.zero_le _, rfl, HR3.out, HG3.out⟩
  case round =>
    obtain ⟨k, hk, rfl, hR, hG⟩ := hrel
    have hq0 : wr.cell? ⟨w.heap.size, 0, none⟩ = some (.slice A0 P.orders.length c0) := hG.cell hp0 (by simp; omega)
    have hq1 : wr.cell? ⟨w.heap.size, 1, none⟩ = some (.slice A1 P.powers.length c1) := hG.cell hp1 (by simp; omega)
    have hq2 : wr.cell? ⟨w.heap.size, 2, none⟩ = some (.slice A2 P.conj.length c2) := hG.cell hp2 (by simp; omega)
    have hbwr : Below w.heap.size w wr := HBW.out.grown hG HBW.out.size (fun k e => by cases e; omega)
    by_cases hlt : k < P.n
    · obtain ⟨b1, o1, rfl, hx1⟩ := HB1.out (by rw [HNP.out]; omega)
      obtain ⟨b2, o2, rfl, hx2⟩ := HC1.out (by rw [HNC.out]; omega)
      obtain ⟨u1, hu1, hr1⟩ := hx1 k (by rw [HNP.out]; omega)
      obtain ⟨u2, hu2, hr2⟩ := hx2 k (by rw [HNC.out]; omega)
      have hu1' := (hbwr.cell (p := ⟨b1, o1 + k, none⟩) (World.block_lt_of_cell? w _ hu1)).trans hu1
      have hkp : (k : Int) < (P.powers.length : Int) := by rw [HNP.out]; omega
      have hkc : (k : Int) < (P.conj.length : Int) := by rw [HNC.out]; omega
      have hk0 : (0 : Int) ≤ (k : Int) := Int.natCast_nonneg _
      have hk12 : (k : Int) < 12 := by omega
      have hpl : (P.pow k).length = P.n := (hv.pow k hlt).1
      have hcp := copy12 (w := wr.drew) (b := br) (o := 13 + k * 12) (kept_ints.below (x := P.pow k) hr1 hbwr.drew) (by rw [hpl]; exact hn12) (Rul.there hR _ (by omega))
      simp only [setCells_drew] at hcp
      have hR4 := (Rul.setPow hR (r := k) (xs := P.pow k) (by omega) (by simp) (by rw [hpl]; exact hn12))
      have hG4 : w2.grownBy (wr.setCells br (13 + k * 12) (ints (P.pow k))) (some br) := only_trans hG (grownBy_setCells _ _ _ _)
      have HR4 := Lib.hid hR4
      have HG4 := Lib.hid hG4
      have HBWR := Lib.hid hbwr
      have HU2 := Lib.hid hu2
      have HR2 := Lib.hid hr2
      clear hpl hx1 hx2 hu1 hu2 hr1 hr2 hR hR4 hG4 hG hbwr
      go_wp2_with fail
      go_region
      have hR5 : RulK (wr.setCells br (13 + k * 12) (ints (P.pow k))).drew br P (k + 1) k 0 := by
        unfold RulK
        refine Rul.congr (Rul.block HR4.out rfl) (fun i _ => ?_) (fun j i _ _ => rfl)
        by_cases e : i = k
        · subst e; rw [if_pos rfl, if_pos (by omega)]
        · by_cases h : i < k
          · rw [if_neg e, if_pos h, if_pos (by omega)]
          · rw [if_neg e, if_neg h, if_neg (by omega)]
      have hG5 : w2.grownBy (wr.setCells br (13 + k * 12) (ints (P.pow k))).drew (some br) := only_drew HG4.out
      generalize (wr.setCells br (13 + k * 12) (ints (P.pow k))).drew = w5 at *
      have hq5 : w5.cell? ⟨w.heap.size, 2, none⟩ = some (.slice (some ⟨b2, o2, none⟩) P.conj.length c2) := hG5.cell hp2 (by simp; omega)
      have hb5 : Below w.heap.size w w5 := HBW.out.grown hG5 HBW.out.size (fun k e => by cases e; omega)
      have hu2' := (hb5.cell (p := ⟨b2, o2 + k, none⟩) (World.block_lt_of_cell? w _ HU2.out)).trans HU2.out
      obtain ⟨A3, c3, rfl, hd1, hd2, hd⟩ := HR2.out.open_
      have hcl := hv.cjl k hlt
      have HCL := Lib.hid hcl
      have HD := Lib.hid hd
      have HR5 := Lib.hid hR5
      have HG5 := Lib.hid hG5
      have hle : (P.conj.getD k []).length ≤ 12 := by omega
      generalize hrow : P.conj.getD k [] = row at *
      have HRow := Lib.hid hrow
      clear hcl hd hR5 hG5 hq0 hq1 hq2 hcp hu1' hb5 hrow
      go_wp2_with fail
      go_loopw [8, 9, 55] (fun _ _ i wr => ∃ m : Nat, m ≤ k ∧ i = .int .i64 m ∧ RulK wr br P (k + 1) k m ∧ w2.grownBy wr (some br)) (fun _ _ i _ => k - (intOf i).toNat)
      case atStart => exact ⟨0, Nat.zero_le _, rfl, HR5.out, HG5.out⟩
      case round =>
        obtain ⟨m, hm, rfl, hRm, hGm⟩ := hrel
        by_cases hml : m < k
        · obtain ⟨b3, o3, rfl, hx3⟩ := HD.out (by rw [HCL.out]; omega)
          obtain ⟨u3, hu3, hr3⟩ := hx3 m (by rw [HCL.out]; omega)
          have hbm : Below w.heap.size w wr := HBW.out.grown hGm HBW.out.size (fun k e => by cases e; omega)
          have hu3' := (hbm.cell (p := ⟨b3, o3 + m, none⟩) (World.block_lt_of_cell? w _ hu3)).trans hu3
          have hcje : row.getD m [] = P.cj k m := by unfold PcD.cj; rw [HRow.out]
          rw [hcje] at hr3
          have hpl : (P.cj k m).length = P.n := (hv.cj k hlt m hml).1
          have hcp := copy12 (w := wr) (b := br) (o := 157 + k * 144 + m * 12) (kept_ints.below hr3 hbm) (by rw [hpl]; exact hn12) (Rul.there hRm _ (by omega))
          have hR6 := Rul.setCj hRm (r := k) (q := m) (xs := P.cj k m) (by omega) (by omega) (by rw [if_neg (by omega)]) (by rw [hpl]; exact hn12)
          have hG6 : w2.grownBy (wr.setCells br (157 + k * 144 + m * 12) (ints (P.cj k m))) (some br) := only_trans hGm (grownBy_setCells _ _ _ _)
          have hmr : (m : Int) < (row.length : Int) := by rw [HCL.out]; omega
          have hm12 : (m : Int) < 12 := by omega
          have hm0 : (0 : Int) ≤ (m : Int) := Int.natCast_nonneg _
          have HR6 := Lib.hid hR6
          have HG6 := Lib.hid hG6
          have HPL := Lib.hid hpl
          clear hx3 hu3 hr3 hbm hcje hpl hR6 hG6 hRm hGm
          go_wp2_with fail
          go_roundw
          case rel =>
            refine ⟨m + 1, by omega, by go_num, ?_, HG6.out⟩
            unfold RulK
            refine Rul.congr HR6.out (fun i _ => rfl) (fun j i _ _ => ?_)
            by_cases e : j = k ∧ i = m
            · obtain ⟨rfl, rfl⟩ := e
              rw [if_pos ⟨rfl, rfl⟩, if_pos (by omega)]
            · rw [if_neg e]
              by_cases h : j < k ∨ j = k ∧ i < m
              · rw [if_pos h, if_pos (by omega)]
              · rw [if_neg h, if_neg (by omega)]
          case measure => simp [intOf]; omega
        · have hmk : m = k := by omega
          subst hmk
          have hge : row.length ≤ m := by rw [HCL.out]; exact Nat.le_refl _
          go_wp2_with fail
          go_roundw
          case rel =>
            refine ⟨m + 1, by omega, by go_num, ?_, hGm⟩
            unfold RulK at hRm ⊢
            refine Rul.congr hRm (fun i _ => rfl) (fun j i _ _ => ?_)
            by_cases e : j = m ∧ m ≤ i
            · obtain ⟨rfl, hi⟩ := e
              rw [if_neg (by omega), if_pos (by omega)]
              unfold PcD.cj
              rw [HRow.out, List.getD_eq_getElem?_getD, List.getElem?_eq_none (by rw [HCL.out]; omega)]
              rfl
            · by_cases h : j < m ∨ j = m ∧ i < m
              · rw [if_pos h, if_pos (by omega)]
              · rw [if_neg h, if_neg (by omega)]
          case measure => simp [intOf]; omega
    · have hkn : k = P.n := by omega
      subst hkn
      have hpl : P.orders.length = P.n := rfl
      go_wp2_with fail
      go_ret2
      refine ⟨⟨br, rfl, ?_, by omega⟩, hbwr⟩
      unfold RulK at hR
      refine ⟨hR.n, hR.ord, fun i hi => ?_, fun j hj i hi => ?_⟩
      · have := hR.pow i hi
        by_cases h : i < P.n
        · rw [if_pos h] at this; exact this
        · rw [if_neg h] at this
          have e : P.pow i = [] := by unfold PcD.pow; rw [List.getD_eq_getElem?_getD, List.getElem?_eq_none (by rw [HNP.out]; omega)]; rfl
          rw [e]; exact this
      · have := hR.cj j hj i hi
        by_cases h : j < P.n
        · rw [if_pos (by omega)] at this; exact this
        · rw [if_neg (by omega)] at this
          have e0 : P.conj.getD j [] = [] := by rw [List.getD_eq_getElem?_getD, List.getElem?_eq_none (by rw [HNC.out]; omega)]; rfl
          have e : P.cj j i = [] := by unfold PcD.cj; rw [e0]; rfl
          rw [e]; exact this
end Go.Proofs
