/- The contract of collect.Check; The contract of collect.of; list; the order of a live group; take and Mul of a live group; Mul of a live group; make([][]int, n); own: a copy of a list of lists. -/
import Derived.Test.YtffkmchmakfcpaaOrCS16
import Derived.Laws.EntriesVeiled
import Derived.Test.YtffkmchmakfcpaaOrCS13
import Derived.Laws.MakeOwn
namespace Go.Proofs
open Go.RowKit Go.Proofs.Pc
theorem lenErr_ok {P : PcD} (h : lenErr P = 0) : P.n ≤ 12 ∧ P.powers.length = P.n ∧ P.conj.length = P.n := by
  unfold lenErr at h
  by_cases a : P.n ≤ 12
  · rw [if_pos a] at h
    by_cases b : P.powers.length = P.n ∧ P.conj.length = P.n
    · exact ⟨a, b⟩
    · rw [if_neg b] at h; cases h
  · rw [if_neg a] at h; cases h
def Stage (P : PcD) (k : Nat) : Prop := (1 ≤ k → lenErr P = 0) ∧ (2 ≤ k → firstP (ordErr P) P.n = (0, 0)) ∧ (3 ≤ k → firstNZ (overErr P) P.n = 0) ∧ (4 ≤ k → firstP (genErr P) P.n = (0, 0))
def ChkRel (w : World) (P : PcD) (A0 : Option Addr) (c0 : Nat) (v1 v2 : Value) (k : Nat) (wr : World) : Prop := Stage P k ∧ wr.cell? ⟨w.heap.size, 0, none⟩ = some (.slice A0 P.orders.length c0) ∧ wr.cell? ⟨w.heap.size, 1, none⟩ = some v1 ∧ wr.cell? ⟨w.heap.size, 2, none⟩ = some v2 ∧ wr.cell? ⟨w.heap.size + 1, 0, none⟩ = some (.int .i64 P.n) ∧ wr.cell? ⟨w.heap.size + 1 + 1, 0, none⟩ = some (listsF (w.heap.size + 1) w.heap.size) ∧ (k ≤ 2 → wr.frozen? ⟨w.heap.size + 1 + 1 + 1, 0, none⟩ = false) ∧ (k ≤ 2 → wr.cell? ⟨w.heap.size + 1 + 1 + 1, 0, none⟩ = some (.int .i64 1)) ∧ wr.cell? ⟨w.heap.size + 1 + 1 + 1 + 1, 0, none⟩ = some (.func (.func 60) #[] #[.pointer (some ⟨w.heap.size + 1, 0, none⟩), .pointer (some ⟨w.heap.size, 0, none⟩)]) ∧ wr.cell? ⟨w.heap.size + 1 + 1 + 1 + 1, 1, none⟩ = some (.func (.func 61) #[] #[.pointer (some ⟨w.heap.size, 0, none⟩)]) ∧ wr.cell? ⟨w.heap.size + 1 + 1 + 1 + 1, 2, none⟩ = some (.func (.func 64) #[] #[.pointer (some ⟨w.heap.size, 0, none⟩), .pointer (some ⟨w.heap.size + 1 + 1 + 1, 0, none⟩)]) ∧ wr.cell? ⟨w.heap.size + 1 + 1 + 1 + 1, 3, none⟩ = some (.func (.func 65) #[] #[.pointer (some ⟨w.heap.size + 1, 0, none⟩), .pointer (some ⟨w.heap.size + 1 + 1, 0, none⟩), .pointer (some ⟨w.heap.size, 0, none⟩)]) ∧ Below w.heap.size w wr
set_option maxRecDepth 100000 in
set_option maxHeartbeats 1000000 in
theorem check_any (w : World) (v0 v1 v2 : Value) (P : PcD) (hP : PcAt w v0 v1 v2 P) :
    Calls Try.prog 24 #[.agg #[v0, v1, v2]] w fun e w' => e = .returned (.tuple #[.int .i64 (checkD P).1, .int .i64 (checkD P).2]) ∧ Below w.heap.size w w' := by
  have HP := Lib.hid hP
  obtain ⟨A0, c0, rfl, ha1, ha2, _⟩ := hP.1.open_
  clear hP
  have hmf : ∀ (fn : Fn) (first cap : Array Value) (w : World), (Instr.makeFunc fn first cap).run Try.prog w = .ok (.func fn first cap) w := fun _ _ _ _ => rfl
  go_enter Try.func24, Try.ntmps24
  go_wp2_with fail
  go_loopw [9, 10, 11, 23] (fun _ _ _ i wr => ∃ k : Nat, k ≤ 4 ∧ i = .int .i64 k ∧ ChkRel w P A0 c0 v1 v2 k wr) (fun _ _ _ i _ => 4 - (intOf i).toNat)
  case atStart =>
    refine ⟨0, by omega, rfl, ⟨⟨fun h => absurd h (by omega), fun h => absurd h (by omega), fun h => absurd h (by omega), fun h => absurd h (by omega)⟩, ?_⟩⟩
    refine ⟨by go_simp, by go_simp, by go_simp, by (have e : P.n = P.orders.length := rfl; rw [e]; go_simp), by (unfold listsF; go_simp), fun _ => by go_simp, fun _ => by go_simp, by go_simp, by go_simp, by go_simp, by go_simp, ?_⟩
    exact ((((((Below.refl _ w).alloc (Nat.le_refl _) _).alloc (by simp) _).alloc (by simp; omega) _).alloc (by simp; omega) _).alloc (by simp; omega) _)
  case round =>
    obtain ⟨k, hk, rfl, hst, h0, h1, h2, hn, hl, hf, ho, k0, k1, k2, k3, hb⟩ := hrel
    have HP' := Lib.hid (HP.out.below hb)
    have HS := Lib.hid hst
    have HO := Lib.hid ho
    have HF := Lib.hid hf
    have HN := Lib.hid hn
    have HL := Lib.hid hl
    have HBl := Lib.hid hb
    clear hst ho hf hn hl hb
    have hk4 : k = 0 ∨ k = 1 ∨ k = 2 ∨ k = 3 ∨ k = 4 := by omega
    rcases hk4 with rfl | rfl | rfl | rfl | rfl
    · by_cases hE : lenErr P = 0
      · have d1 : (lenErr P != 0) = false := by simp [hE]
        have HE := Lib.hid hE
        clear hE
        go_wp2_with (go_at_call 60; refine (chk2_any _ _ _ _ v1 v2 P HN.out h1 h2 HP'.out).mono ?_; rintro e w' ⟨rfl, rfl⟩)
        go_roundw
        case rel => exact ⟨1, by omega, by go_num, ⟨fun _ => HE.out, fun h => absurd h (by omega), fun h => absurd h (by omega), fun h => absurd h (by omega)⟩, h0, h1, h2, HN.out, HL.out, fun _ => HF.out (by omega), fun _ => HO.out (by omega), k0, k1, k2, k3, HBl.out⟩
        case measure => simp [intOf]
      · have d1 : (lenErr P != 0) = true := by simp [hE]
        have HE := Lib.hid hE
        clear hE
        go_wp2_with (go_at_call 60; refine (chk2_any _ _ _ _ v1 v2 P HN.out h1 h2 HP'.out).mono ?_; rintro e w' ⟨rfl, rfl⟩)
        go_ret2
        refine ⟨?_, HBl.out⟩
        have hd : checkD P = (lenErr P, 0) := by unfold checkD orElse; rw [if_neg HE.out]
        rw [hd]; rfl
    · by_cases hE : (firstP (ordErr P) P.n).1 = 0
      · have d1 : ((firstP (ordErr P) P.n).1 != 0) = false := by simp [hE]
        have HE := Lib.hid hE
        clear hE
        go_wp2_with (go_at_call 61; refine (chk3_any _ _ _ P h0 HP'.out.1).mono ?_; rintro e w' ⟨rfl, rfl⟩)
        go_roundw
        case rel => exact ⟨2, by omega, by go_num, ⟨fun _ => HS.out.1 (by omega), fun _ => firstP_ok HE.out, fun h => absurd h (by omega), fun h => absurd h (by omega)⟩, h0, h1, h2, HN.out, HL.out, fun _ => HF.out (by omega), fun _ => HO.out (by omega), k0, k1, k2, k3, HBl.out⟩
        case measure => simp [intOf]
      · have d1 : ((firstP (ordErr P) P.n).1 != 0) = true := by simp [hE]
        have HE := Lib.hid hE
        clear hE
        go_wp2_with (go_at_call 61; refine (chk3_any _ _ _ P h0 HP'.out.1).mono ?_; rintro e w' ⟨rfl, rfl⟩)
        go_ret2
        refine ⟨?_, HBl.out⟩
        have hd : checkD P = firstP (ordErr P) P.n := by unfold checkD orElse; rw [if_pos (HS.out.1 (by omega)), if_neg HE.out]
        rw [hd]; rfl
    · by_cases hE : firstNZ (overErr P) P.n = 0
      · have d1 : (firstNZ (overErr P) P.n != 0) = false := by simp [hE]
        have HE := Lib.hid hE
        clear hE
        go_wp2_with (go_at_call 64; refine (chk4_any w _ _ _ _ P h0 HP.out.1 HBl.out (by omega) (by omega) (HO.out (by omega)) (HF.out (by omega)) (fun k hk => firstP_zero (f := ordErr P) (by rw [HS.out.2.1 (by omega)]) k hk)).mono ?_; rintro e w' ⟨rfl, hg⟩)
        go_roundw
        have hgc : ∀ j o, j < 5 → j ≠ 3 → w'.cell? ⟨w.heap.size + j, o, none⟩ = wr.cell? ⟨w.heap.size + j, o, none⟩ := fun j o hj hj3 => World.cell?_of_block (hg.block _ (by have := World.block_lt_of_cell? wr _ k0; simp at this ⊢; omega) (by simp; omega))
        case rel => exact ⟨3, by omega, by go_num, ⟨fun _ => HS.out.1 (by omega), fun _ => HS.out.2.1 (by omega), fun _ => HE.out, fun h => absurd h (by omega)⟩, (hgc 0 0 (by omega) (by omega)).trans h0, (hgc 0 1 (by omega) (by omega)).trans h1, (hgc 0 2 (by omega) (by omega)).trans h2, (hgc 1 0 (by omega) (by omega)).trans HN.out, (hgc 2 0 (by omega) (by omega)).trans HL.out, fun h => absurd h (by omega), fun h => absurd h (by omega), (hgc 4 0 (by omega) (by omega)).trans k0, (hgc 4 1 (by omega) (by omega)).trans k1, (hgc 4 2 (by omega) (by omega)).trans k2, (hgc 4 3 (by omega) (by omega)).trans k3, HBl.out.grown hg HBl.out.size (fun k e => by cases e; omega)⟩
        case measure => simp [intOf]
      · have d1 : (firstNZ (overErr P) P.n != 0) = true := by simp [hE]
        have HE := Lib.hid hE
        clear hE
        go_wp2_with (go_at_call 64; refine (chk4_any w _ _ _ _ P h0 HP.out.1 HBl.out (by omega) (by omega) (HO.out (by omega)) (HF.out (by omega)) (fun k hk => firstP_zero (f := ordErr P) (by rw [HS.out.2.1 (by omega)]) k hk)).mono ?_; rintro e w' ⟨rfl, hg⟩)
        go_ret2
        refine ⟨?_, HBl.out.grown hg HBl.out.size (fun k e => by cases e; omega)⟩
        have hd : checkD P = (firstNZ (overErr P) P.n, 0) := by unfold checkD orElse; rw [if_pos (HS.out.1 (by omega)), HS.out.2.1 (by omega), if_pos rfl, if_neg HE.out]
        rw [hd]; rfl
    · have hvl := lenErr_ok (HS.out.1 (by omega))
      have HV := Lib.hid hvl
      clear hvl
      by_cases hE : (firstP (genErr P) P.n).1 = 0
      · have d1 : ((firstP (genErr P) P.n).1 != 0) = false := by simp [hE]
        have HE := Lib.hid hE
        clear hE
        go_wp2_with (go_at_call 65; refine (chk5_any _ _ _ _ _ v1 v2 P HN.out HL.out h0 h1 h2 HP'.out HV.out.1 HV.out.2.1 HV.out.2.2).mono ?_; rintro e w' ⟨rfl, q, rfl⟩)
        go_roundw
        case rel => exact ⟨4, by omega, by go_num, ⟨fun _ => HS.out.1 (by omega), fun _ => HS.out.2.1 (by omega), fun _ => HS.out.2.2.1 (by omega), fun _ => firstP_ok HE.out⟩, h0, h1, h2, HN.out, HL.out, fun h => absurd h (by omega), fun h => absurd h (by omega), k0, k1, k2, k3, below_drewN HBl.out _⟩
        case measure => simp [intOf]
      · have d1 : ((firstP (genErr P) P.n).1 != 0) = true := by simp [hE]
        have HE := Lib.hid hE
        clear hE
        go_wp2_with (go_at_call 65; refine (chk5_any _ _ _ _ _ v1 v2 P HN.out HL.out h0 h1 h2 HP'.out HV.out.1 HV.out.2.1 HV.out.2.2).mono ?_; rintro e w' ⟨rfl, q, rfl⟩)
        go_ret2
        refine ⟨?_, below_drewN HBl.out _⟩
        have hd : checkD P = firstP (genErr P) P.n := by unfold checkD orElse; rw [if_pos (HS.out.1 (by omega)), HS.out.2.1 (by omega), if_pos rfl, if_pos (HS.out.2.2.1 (by omega))]
        rw [hd]; rfl
    · have hd : checkD P = (0, 0) := by unfold checkD orElse; rw [if_pos (HS.out.1 (by omega)), HS.out.2.1 (by omega), if_pos rfl, if_pos (HS.out.2.2.1 (by omega)), HS.out.2.2.2 (by omega)]
      have HD := Lib.hid hd
      clear hd
      go_wp2_with fail
      go_ret2
      rw [HD.out]
      exact ⟨rfl, HBl.out⟩
end Go.Proofs
namespace Go.Proofs
open Go.RowKit Go.Proofs.Pc
set_option maxRecDepth 100000 in
set_option maxHeartbeats 1000000 in
theorem of_bad (w : World) (v0 v1 v2 : Value) (P : PcD) (hP : PcAt w v0 v1 v2 P) (he : (checkD P).1 ≠ 0) :
    Calls Try.prog 49 #[.agg #[v0, v1, v2]] w fun e w' => e = .returned (.tuple #[.pointer none, .int .i64 (checkD P).1]) ∧ Below w.heap.size w w' := by
  have d1 : ((checkD P).1 != 0) = true := by simp [he]
  have HP := Lib.hid hP
  clear hP he
  go_enter Try.func49, Try.ntmps49
  go_wp2_with (go_at_call 24; refine (check_any _ v0 v1 v2 P (HP.out.below ((Below.refl _ _).alloc (Nat.le_refl _) _))).mono ?_; rintro e w' ⟨rfl, hb⟩)
  go_ret2
  exact ⟨rfl, ((Below.refl _ _).alloc (Nat.le_refl _) _).trans (hb.mono (by simp))⟩
/-- after k generators -/
def RulK (w : World) (br : Nat) (P : PcD) (a k m : Nat) : Prop := Rul w br P.orders.length P.orders (fun i => if i < a then P.pow i else []) (fun j i => if j < k ∨ (j = k ∧ i < m) then P.cj j i else [])
set_option maxRecDepth 100000 in
set_option maxHeartbeats 1000000 in
theorem of_good (w : World) (v0 v1 v2 : Value) (P : PcD) (hP : PcAt w v0 v1 v2 P) (he : (checkD P).1 = 0) :
    Calls Try.prog 49 #[.agg #[v0, v1, v2]] w fun e w' => (∃ br, e = .returned (.tuple #[.pointer (some ⟨br, 0, none⟩), .int .i64 0]) ∧ RulesAt w' br P ∧ w.heap.size ≤ br) ∧ Below w.heap.size w w' := by
  have hv := valid_of_check he
  have hn12 := hv.n12
  have d1 : ((checkD P).1 != 0) = false := by simp [he]
  have HP := Lib.hid hP
  obtain ⟨A0, c0, rfl, ha1, ha2, _⟩ := hP.1.open_
  obtain ⟨A1, c1, rfl, hb1, hb2, hbo⟩ := hP.2.1.open_
  obtain ⟨A2, c2, rfl, hc1, hc2, hco⟩ := hP.2.2.open_
  have HB1 := Lib.hid hbo
  have HC1 := Lib.hid hco
  have HNP := Lib.hid hv.npow
  have HNC := Lib.hid hv.ncj
  clear hP he hbo hco
  go_enter Try.func49, Try.ntmps49
  go_wp2_with (go_at_call 24; refine (check_any _ _ _ _ P (HP.out.below ((Below.refl _ _).alloc (Nat.le_refl _) _))).mono ?_; rintro e w2 ⟨rfl, hb⟩; have hp0 : w2.cell? ⟨w.heap.size, 0, none⟩ = some (.slice A0 P.orders.length c0) := (hb.cell (p := ⟨w.heap.size, 0, none⟩) (by simp)).trans (cell_of_row _ _ 0 _ _ _ (heap_alloc_new w _)))
  have hp1 : w2.cell? ⟨w.heap.size, 1, none⟩ = some (.slice A1 P.powers.length c1) := (hb.cell (p := ⟨w.heap.size, 1, none⟩) (by simp)).trans (cell_of_row _ _ 1 _ _ _ (heap_alloc_new w _))
  have hp2 : w2.cell? ⟨w.heap.size, 2, none⟩ = some (.slice A2 P.conj.length c2) := (hb.cell (p := ⟨w.heap.size, 2, none⟩) (by simp)).trans (cell_of_row _ _ 2 _ _ _ (heap_alloc_new w _))
  have hbw : Below w.heap.size w w2 := ((Below.refl _ w).alloc (Nat.le_refl _) _).trans (hb.mono (by simp))
  have hsz := World.block_lt_of_cell? w2 _ hp0
  have hrz := Rul.new w2 (P.orders.length : Int)
  have hbw3 : Below w.heap.size w (w2.alloc (.cells (Try.zeroCells91.setIfInBounds 0 (.int .i64 (P.orders.length : Int))) 91)) := hbw.alloc hbw.size _
  have hcp := copy12 (w := (w2.alloc (.cells (Try.zeroCells91.setIfInBounds 0 (.int .i64 (P.orders.length : Int))) 91)).drew) (b := w2.heap.size) (o := 1) (HP.out.1.below hbw3.drew) hn12 (hrz.there 1 (by omega))
  simp only [setCells_drew] at hcp
  have HRZ := Lib.hid (hrz.setOrd (xs := P.orders) hn12)
  have HBW := Lib.hid hbw
  clear hb hbw hrz hbw3
  go_region
  have hR3 : RulK ((w2.alloc (.cells (Try.zeroCells91.setIfInBounds 0 (.int .i64 (P.orders.length : Int))) 91)).setCells w2.heap.size 1 (ints P.orders)).drew w2.heap.size P 0 0 0 := by
    unfold RulK
    exact Rul.congr (Rul.block HRZ.out rfl) (fun i _ => by simp) (fun j i _ _ => by simp)
  have hG3 : w2.grownBy ((w2.alloc (.cells (Try.zeroCells91.setIfInBounds 0 (.int .i64 (P.orders.length : Int))) 91)).setCells w2.heap.size 1 (ints P.orders)).drew (some w2.heap.size) := only_drew (only_trans (World.grownBy_alloc w2 _ _) (grownBy_setCells _ _ _ _))
  generalize ((w2.alloc (.cells (Try.zeroCells91.setIfInBounds 0 (.int .i64 (P.orders.length : Int))) 91)).setCells w2.heap.size 1 (ints P.orders)).drew = w3 at *
  have hn3 := hR3.n
  generalize hbr : w2.heap.size = br at *
  have HR3 := Lib.hid hR3
  have HG3 := Lib.hid hG3
  have HBR := Lib.hid hbr
  clear hcp hR3 hG3 hbr
  go_wp2_with fail
  go_loopw [7, 34] (fun _ i wr => ∃ k : Nat, k ≤ P.n ∧ i = .int .i64 k ∧ RulK wr br P k k 0 ∧ w2.grownBy wr (some br)) (fun _ i _ => P.n - (intOf i).toNat)
  case atStart => exact ⟨0, Nat.zero_le _, rfl, HR3.out, HG3.out⟩
  case round =>
    obtain ⟨k, hk, rfl, hR, hG⟩ := hrel
    have hq0 : wr.cell? ⟨w.heap.size, 0, none⟩ = some (.slice A0 P.orders.length c0) := hG.cell hp0 (by simp; omega)
    have hq1 : wr.cell? ⟨w.heap.size, 1, none⟩ = some (.slice A1 P.powers.length c1) := hG.cell hp1 (by simp; omega)
    have hq2 : wr.cell? ⟨w.heap.size, 2, none⟩ = some (.slice A2 P.conj.length c2) := hG.cell hp2 (by simp; omega)
    have hbwr : Below w.heap.size w wr := HBW.out.grown hG HBW.out.size (fun k e => by cases e; omega)
    by_cases hlt : k < P.n
    · obtain ⟨b1, o1, rfl, hx1⟩ := HB1.out (by rw [HNP.out]; omega)
      obtain ⟨b2, o2, rfl, hx2⟩ := HC1.out (by rw [HNC.out]; omega)
      obtain ⟨u1, hu1, hr1⟩ := hx1 k (by rw [HNP.out]; omega)
      obtain ⟨u2, hu2, hr2⟩ := hx2 k (by rw [HNC.out]; omega)
      have hu1' := (hbwr.cell (p := ⟨b1, o1 + k, none⟩) (World.block_lt_of_cell? w _ hu1)).trans hu1
      have hkp : (k : Int) < (P.powers.length : Int) := by rw [HNP.out]; omega
      have hkc : (k : Int) < (P.conj.length : Int) := by rw [HNC.out]; omega
      have hk0 : (0 : Int) ≤ (k : Int) := Int.natCast_nonneg _
      have hk12 : (k : Int) < 12 := by omega
      have hpl : (P.pow k).length = P.n := (hv.pow k hlt).1
      have hcp := copy12 (w := wr.drew) (b := br) (o := 13 + k * 12) (kept_ints.below (x := P.pow k) hr1 hbwr.drew) (by rw [hpl]; exact hn12) (Rul.there hR _ (by omega))
      simp only [setCells_drew] at hcp
      have hR4 := (Rul.setPow hR (r := k) (xs := P.pow k) (by omega) (by simp) (by rw [hpl]; exact hn12))
      have hG4 : w2.grownBy (wr.setCells br (13 + k * 12) (ints (P.pow k))) (some br) := only_trans hG (grownBy_setCells _ _ _ _)
      have HR4 := Lib.hid hR4
      have HG4 := Lib.hid hG4
      have HBWR := Lib.hid hbwr
      have HU2 := Lib.hid hu2
      have HR2 := Lib.hid hr2
      clear hpl hx1 hx2 hu1 hu2 hr1 hr2 hR hR4 hG4 hG hbwr
      go_wp2_with fail
      go_region
      have hR5 : RulK (wr.setCells br (13 + k * 12) (ints (P.pow k))).drew br P (k + 1) k 0 := by
        unfold RulK
        refine Rul.congr (Rul.block HR4.out rfl) (fun i _ => ?_) (fun j i _ _ => rfl)
        by_cases e : i = k
        · subst e; rw [if_pos rfl, if_pos (by omega)]
        · by_cases h : i < k
          · rw [if_neg e, if_pos h, if_pos (by omega)]
          · rw [if_neg e, if_neg h, if_neg (by omega)]
      have hG5 : w2.grownBy (wr.setCells br (13 + k * 12) (ints (P.pow k))).drew (some br) := only_drew HG4.out
      generalize (wr.setCells br (13 + k * 12) (ints (P.pow k))).drew = w5 at *
      have hq5 : w5.cell? ⟨w.heap.size, 2, none⟩ = some (.slice (some ⟨b2, o2, none⟩) P.conj.length c2) := hG5.cell hp2 (by simp; omega)
      have hb5 : Below w.heap.size w w5 := HBW.out.grown hG5 HBW.out.size (fun k e => by cases e; omega)
      have hu2' := (hb5.cell (p := ⟨b2, o2 + k, none⟩) (World.block_lt_of_cell? w _ HU2.out)).trans HU2.out
      obtain ⟨A3, c3, rfl, hd1, hd2, hd⟩ := HR2.out.open_
      have hcl := hv.cjl k hlt
      have HCL := Lib.hid hcl
      have HD := Lib.hid hd
      have HR5 := Lib.hid hR5
      have HG5 := Lib.hid hG5
      have hle : (P.conj.getD k []).length ≤ 12 := by omega
      generalize hrow : P.conj.getD k [] = row at *
      have HRow := Lib.hid hrow
      clear hcl hd hR5 hG5 hq0 hq1 hq2 hcp hu1' hb5 hrow
      go_wp2_with fail
      go_loopw [8, 9, 55] (fun _ _ i wr => ∃ m : Nat, m ≤ k ∧ i = .int .i64 m ∧ RulK wr br P (k + 1) k m ∧ w2.grownBy wr (some br)) (fun _ _ i _ => k - (intOf i).toNat)
      case atStart => exact ⟨0, Nat.zero_le _, rfl, HR5.out, HG5.out⟩
      case round =>
        obtain ⟨m, hm, rfl, hRm, hGm⟩ := hrel
        by_cases hml : m < k
        · obtain ⟨b3, o3, rfl, hx3⟩ := HD.out (by rw [HCL.out]; omega)
          obtain ⟨u3, hu3, hr3⟩ := hx3 m (by rw [HCL.out]; omega)
          have hbm : Below w.heap.size w wr := HBW.out.grown hGm HBW.out.size (fun k e => by cases e; omega)
          have hu3' := (hbm.cell (p := ⟨b3, o3 + m, none⟩) (World.block_lt_of_cell? w _ hu3)).trans hu3
          have hcje : row.getD m [] = P.cj k m := by unfold PcD.cj; rw [HRow.out]
          rw [hcje] at hr3
          have hpl : (P.cj k m).length = P.n := (hv.cj k hlt m hml).1
          have hcp := copy12 (w := wr) (b := br) (o := 157 + k * 144 + m * 12) (kept_ints.below hr3 hbm) (by rw [hpl]; exact hn12) (Rul.there hRm _ (by omega))
          have hR6 := Rul.setCj hRm (r := k) (q := m) (xs := P.cj k m) (by omega) (by omega) (by rw [if_neg (by omega)]) (by rw [hpl]; exact hn12)
          have hG6 : w2.grownBy (wr.setCells br (157 + k * 144 + m * 12) (ints (P.cj k m))) (some br) := only_trans hGm (grownBy_setCells _ _ _ _)
          have hmr : (m : Int) < (row.length : Int) := by rw [HCL.out]; omega
          have hm12 : (m : Int) < 12 := by omega
          have hm0 : (0 : Int) ≤ (m : Int) := Int.natCast_nonneg _
          have HR6 := Lib.hid hR6
          have HG6 := Lib.hid hG6
          have HPL := Lib.hid hpl
          clear hx3 hu3 hr3 hbm hcje hpl hR6 hG6 hRm hGm
          go_wp2_with fail
          go_roundw
          case rel =>
            refine ⟨m + 1, by omega, by go_num, ?_, HG6.out⟩
            unfold RulK
            refine Rul.congr HR6.out (fun i _ => rfl) (fun j i _ _ => ?_)
            by_cases e : j = k ∧ i = m
            · obtain ⟨rfl, rfl⟩ := e
              rw [if_pos ⟨rfl, rfl⟩, if_pos (by omega)]
            · rw [if_neg e]
              by_cases h : j < k ∨ j = k ∧ i < m
              · rw [if_pos h, if_pos (by omega)]
              · rw [if_neg h, if_neg (by omega)]
          case measure => simp [intOf]; omega
        · have hmk : m = k := by omega
          subst hmk
          have hge : row.length ≤ m := by rw [HCL.out]; exact Nat.le_refl _
          go_wp2_with fail
          go_roundw
          case rel =>
            refine ⟨m + 1, by omega, by go_num, ?_, hGm⟩
            unfold RulK at hRm ⊢
            refine Rul.congr hRm (fun i _ => rfl) (fun j i _ _ => ?_)
            by_cases e : j = m ∧ m ≤ i
            · obtain ⟨rfl, hi⟩ := e
              rw [if_neg (by omega), if_pos (by omega)]
              unfold PcD.cj
              rw [HRow.out, List.getD_eq_getElem?_getD, List.getElem?_eq_none (by rw [HCL.out]; omega)]
              rfl
            · by_cases h : j < m ∨ j = m ∧ i < m
              · rw [if_pos h, if_pos (by omega)]
              · rw [if_neg h, if_neg (by omega)]
          case measure => simp [intOf]; omega
    · have hkn : k = P.n := by omega
      subst hkn
      have hpl : P.orders.length = P.n := rfl
      go_wp2_with fail
      go_ret2
      refine ⟨⟨br, rfl, ?_, by omega⟩, hbwr⟩
      unfold RulK at hR
      refine ⟨hR.n, hR.ord, fun i hi => ?_, fun j hj i hi => ?_⟩
      · have := hR.pow i hi
        by_cases h : i < P.n
        · rw [if_pos h] at this; exact this
        · rw [if_neg h] at this
          have e : P.pow i = [] := by unfold PcD.pow; rw [List.getD_eq_getElem?_getD, List.getElem?_eq_none (by rw [HNP.out]; omega)]; rfl
          rw [e]; exact this
      · have := hR.cj j hj i hi
        by_cases h : j < P.n
        · rw [if_pos (by omega)] at this; exact this
        · rw [if_neg (by omega)] at this
          have e0 : P.conj.getD j [] = [] := by rw [List.getD_eq_getElem?_getD, List.getElem?_eq_none (by rw [HNC.out]; omega)]; rfl
          have e : P.cj j i = [] := by unfold PcD.cj; rw [e0]; rfl
          rw [e]; exact this
end Go.Proofs
namespace Go.Proofs
open Go.RowKit Go.Proofs.Pc
theorem Pc.NV.fits {P : PcD} (hv : Valid P) {x : List Int} (h : NV P x) : Fits x := fun y hy => by
  obtain ⟨k, hk, rfl⟩ := List.getElem_of_mem hy
  have h1 := h.2 k (by rw [← h.1]; exact hk)
  have h2 := (hv.ord2 k (by rw [← h.1]; exact hk)).2
  have e : x.getD k 0 = x[k] := by simp [List.getD_eq_getElem?_getD, hk]
  rw [e] at h1
  omega
theorem intsAt_vec {w : World} {b n : Nat} {x : List Int} (hr : w.rangeAt b 0 (vec x)) (hx : x.length = n) (hn : n ≤ 12) (hf : Fits x) : IntsAt w (.slice (some ⟨b, 0, none⟩) n 12) x :=
  ⟨⟨_, n, 12, rfl, by simp [ints, hx], hn, by simp [maxLen], fun _ => ⟨b, 0, rfl, fun j u hu => by
    have hj : j < x.length := by
      rcases Nat.lt_or_ge j x.length with h | h
      · exact h
      · rw [List.getElem?_eq_none (by simpa [ints] using h)] at hu; cases hu
    refine hr j u ?_
    have := vec_get x (show j < 12 by omega)
    rw [List.getElem?_toArray] at this
    rw [this, ← hu]
    simp [ints, hj]⟩⟩, hf⟩
theorem run_sliceAt_vech (w : World) (b k : Nat) (hk : k ≤ 12) : (Instr.sliceAt 87 (.pointer (some ⟨b, 0, none⟩)) none (some (.int .i64 (k : Int))) none).run Try.prog w = .ok (.slice (some ⟨b, 0, none⟩) k 12) w := by
  have h1 : ((k : Int)) ≤ 12 := by omega
  obtain ⟨i, hi⟩ := info3
  simp [Instr.sliceAt, run_underlying Try.underlying87, Instr.sureAddr, Instr.sliceBounds, Instr.sliceBound, asIntOf, sizeOf, typeInfo, hk, hi]
  rw [Addr.add_mid]
set_option maxRecDepth 100000 in
set_option maxHeartbeats 1000000 in
theorem list_any {P : PcD} (hv : Valid P) (w : World) (br : Nat) (hr : RulesAt w br P) (x : List Int) (hx : NV P x) :
    Calls Try.prog 72 #[.pointer (some ⟨br, 0, none⟩), .agg (vec x).toArray] w fun e w' => ∃ u, e = .returned u ∧ IntsAt w' u x ∧ Below w.heap.size w w' := by
  have hn := ((KC.refl w).alloc (.cells (vec x).toArray 87)).cell hr.n
  have h12 := hv.n12
  have hi := intsAt_vec (range_new w x) hx.1 h12 (Pc.NV.fits hv hx)
  have hl : x.length ≤ 1000 := by rw [hx.1]; omega
  have hb : Below w.heap.size w (w.alloc (.cells (vec x).toArray 87)) := (Below.refl _ _).alloc (Nat.le_refl _) _
  have hsl := run_sliceAt_vech (w.alloc (.cells (vec x).toArray 87)) w.heap.size P.n h12
  have HI := Lib.hid hi
  have HB := Lib.hid hb
  clear hr hi hb
  go_enter Try.func72, Try.ntmps72
  go_wp2_with (go_at_call 94; refine (clone_any _ _ x HI.out hl).mono ?_; rintro e w' ⟨u, rfl, hu, hbe⟩)
  exact bodyPost_ret (results_tmp (t := 4) rfl _ _ _) rfl ⟨u, rfl, hu, HB.out.trans (hbe.mono HB.out.size)⟩
def Small (P : PcD) : Prop := ∀ k, k ≤ P.n → 0 ≤ prod P k ∧ prod P k ≤ 50000
set_option maxRecDepth 100000 in
set_option maxHeartbeats 1000000 in
theorem order_live {P : PcD} (hv : Valid P) (hs : Small P) (w : World) (bg br : Nat) (hg : Live w bg br) (hr : RulesAt w br P) :
    Calls Try.prog 19 #[.pointer (some ⟨bg, 0, none⟩)] w fun e w' => e = .returned (.int .i64 (prod P P.n)) ∧ w' = w := by
  have hrn := hr.n
  have hro := hr.ord
  have h12 := hv.n12
  have hge := hg
  unfold Live at hge
  clear hr
  go_enter Try.func19, Try.ntmps19
  go_wp2_with (go_at_call 56; refine (valid_live w bg br hg).mono ?_; rintro e w' ⟨rfl, rfl⟩)
  go_loop [3, 4, 15] (fun s _ i => ∃ k : Nat, k ≤ P.n ∧ i = .int .i64 k ∧ s = .int .i64 (prod P k)) (fun _ _ i => P.n - (intOf i).toNat)
  case atStart => exact ⟨0, Nat.zero_le _, rfl, rfl⟩
  case round =>
    obtain ⟨k, hk, rfl, rfl⟩ := hrel
    by_cases hlt : k < P.n
    · have c1 : w'.cell? ⟨br, 1 + k, none⟩ = some (.int .i64 (P.ord k)) := hro k _ (by have := vec_get P.orders (show k < 12 by omega); rwa [List.getElem?_toArray] at this)
      have hm := hs (k + 1) (by omega)
      have hmw : IntKind.i64.wrap (prod P k * P.ord k) = prod P k * P.ord k := IntWalk.i64_in _ (by show _ ≤ prod P (k + 1) ∧ prod P (k + 1) ≤ _; omega)
      have hst : prod P (k + 1) = prod P k * P.ord k := rfl
      have hk0 : (0 : Int) ≤ (k : Int) := Int.natCast_nonneg _
      have hk1 : (k : Int) < 12 := by omega
      clear hro hm hs
      generalize prod P k = a at *
      generalize P.ord k = y at *
      go_wp2_with fail
      all_goals first
        | (go_round
           case rel => exact ⟨k + 1, by omega, by go_num, by rw [hst]⟩
           case measure => simp [intOf]; omega)
        | trace_state
    · obtain rfl : k = P.n := by omega
      go_wp2_with fail
      go_ret
      exact ⟨rfl, rfl⟩
end Go.Proofs
namespace Go.Proofs
open Go.RowKit Go.Proofs.Pc
theorem setCell_alloc (w : World) (C : Array Value) (t : TypeId) (o : Nat) (v : Value) : (w.alloc (.cells C t)).setCell ⟨w.heap.size, o, none⟩ v = w.alloc (.cells (C.setIfInBounds o v) t) := by
  unfold World.setCell World.alloc
  congr 1
  apply Array.ext_getElem?
  intro k
  rw [Array.getElem?_modify]
  by_cases h : w.heap.size = k
  · subst h; simp
  · rw [if_neg h]
    simp only [Array.getElem?_push]
    rw [if_neg (fun e => h e.symm), if_neg (fun e => h e.symm)]
def fill (C : Array Value) : Nat → List Value → Array Value
  | _, [] => C
  | o, v :: r => fill (C.setIfInBounds o v) (o + 1) r
theorem fill_size : ∀ (vs : List Value) (C : Array Value) (o : Nat), (fill C o vs).size = C.size
  | [], _, _ => rfl
  | v :: r, C, o => by rw [fill, fill_size r]; simp
theorem setCells_alloc : ∀ (vs : List Value) (w : World) (C : Array Value) (t : TypeId) (o : Nat), (w.alloc (.cells C t)).setCells w.heap.size o vs = w.alloc (.cells (fill C o vs) t)
  | [], _, _, _, _ => rfl
  | v :: r, w, C, t, o => by rw [World.setCells, setCell_alloc, setCells_alloc r, fill]
theorem fill_vec (w : World) (xs : List Int) (h : xs.length ≤ 12) : (w.alloc (.cells (vec []).toArray 87)).setCells w.heap.size 0 (ints xs) = w.alloc (.cells (vec xs).toArray 87) := by
  have h1 := rangeAt_fill (range_new w []) h
  rw [setCells_alloc] at h1 ⊢
  have e : fill (vec []).toArray 0 (ints xs) = (vec xs).toArray := by
    apply Array.ext_getElem?
    intro k
    rcases Nat.lt_or_ge k 12 with hk | hk
    · have h2 := h1 k _ (getElem?_vec xs hk)
      rw [cell_of_row _ _ _ _ _ _ (heap_alloc_new w _)] at h2
      rw [vec_get xs hk]
      simpa using h2
    · rw [Array.getElem?_eq_none (by rw [fill_size, size_vec]; exact hk), Array.getElem?_eq_none (by rw [size_vec]; exact hk)]
  rw [e]
def takeErr (P : PcD) (xs : List Int) : Int := if xs.length = P.n then (if normalB P.orders xs 0 then 0 else 2) else 3
def takeVec (P : PcD) (xs : List Int) : List Int := if takeErr P xs = 0 then xs else []
theorem intsAt_sub {w : World} {b o n cap : Nat} {x : List Int} (hr : w.rangeAt b o (vec x)) (hx : x.length = n) (hn : n ≤ 12) (hc : n ≤ cap) (hm : cap ≤ 12) (hf : Fits x) : IntsAt w (.slice (some ⟨b, o, none⟩) n cap) x :=
  ⟨⟨_, n, cap, rfl, by simp [ints, hx], hc, by simp [maxLen]; omega, fun _ => ⟨b, o, rfl, fun j u hu => by
    have hj : j < x.length := by
      rcases Nat.lt_or_ge j x.length with h | h
      · exact h
      · rw [List.getElem?_eq_none (by simpa [ints] using h)] at hu; cases hu
    refine hr j u ?_
    have := vec_get x (show j < 12 by omega)
    rw [List.getElem?_toArray] at this
    rw [this, ← hu]
    simp [ints, hj]⟩⟩, hf⟩
/-- the twelve orders as a slice -/
def ord12 (P : PcD) : List Int := (List.range 12).map fun k => P.orders.getD k 0
theorem vec_ord12 (P : PcD) : vec (ord12 P) = vec P.orders := by
  unfold vec ord12
  refine List.map_congr_left fun k hk => ?_
  have hk' : k < 12 := by simpa using hk
  rw [List.getD_eq_getElem?_getD, List.getElem?_map, List.getElem?_range hk']
  rfl
theorem ord12_getD (P : PcD) {k : Nat} (h : k < 12) : (ord12 P).getD k 0 = P.orders.getD k 0 := by
  unfold ord12
  rw [List.getD_eq_getElem?_getD, List.getElem?_map, List.getElem?_range h]; rfl
theorem normal_ord12 (P : PcD) (xs : List Int) (a : Int) (h : xs.length ≤ 12) : normalB (ord12 P) xs a = normalB P.orders xs a := by
  unfold normalB
  have : ∀ k ∈ List.range xs.length, normAt (ord12 P) xs a k = normAt P.orders xs a k := fun k hk => by
    have hk' : k < xs.length := by simpa using hk
    unfold normAt
    rw [ord12_getD P (by omega)]
  rw [Bool.eq_iff_iff, List.all_eq_true, List.all_eq_true]
  exact ⟨fun hh k hk => (this k hk) ▸ hh k hk, fun hh k hk => (this k hk).symm ▸ hh k hk⟩
theorem ord12_fits {P : PcD} (hv : Valid P) : Fits (ord12 P) := fun y hy => by
  obtain ⟨k, hk, rfl⟩ := List.mem_map.1 hy
  have hk' : k < 12 := by simpa using hk
  rcases Nat.lt_or_ge k P.n with h | h
  · have := hv.ord2 k h
    unfold PcD.ord at this
    omega
  · rw [List.getD_eq_getElem?_getD, List.getElem?_eq_none h]; simp
theorem run_sliceAt_veca (w : World) (b o : Nat) : (Instr.sliceAt 87 (.pointer (some ⟨b, o, none⟩)) none none none).run Try.prog w = .ok (.slice (some ⟨b, o, none⟩) 12 12) w := by
  obtain ⟨i, hi⟩ := info3
  simp [Instr.sliceAt, run_underlying Try.underlying87, Instr.sureAddr, Instr.sliceBounds, sizeOf, typeInfo, hi]
  rw [Addr.add_mid, Nat.add_zero]
theorem there_new (w : World) (x : List Int) : (w.alloc (.cells (vec x).toArray 87)).there w.heap.size 0 12 := fun j hj =>
  ⟨by have := range_new w x j _ (getElem?_vec x hj); rw [this]; rfl, by
    have h : World.frozen? (w.alloc (.cells (vec x).toArray 87)) ⟨w.heap.size, 0 + j, none⟩ = false := by
      unfold World.frozen?
      rw [heap_alloc_new]
      simp
    exact h⟩
set_option maxRecDepth 100000 in
set_option maxHeartbeats 400000 in
theorem take_live {P : PcD} (hv : Valid P) (w : World) (bg br : Nat) (hg : Live w bg br) (hr : RulesAt w br P) (sv : Value) (xs : List Int) (hs : IntsAt w sv xs) :
    Calls Try.prog 71 #[.pointer (some ⟨bg, 0, none⟩), sv] w fun e w' => e = .returned (.tuple #[.agg (vec (takeVec P xs)).toArray, .int .i64 (takeErr P xs)]) ∧ Below w.heap.size w w' := by
  have hb1 : Below w.heap.size w (w.alloc (.cells (vec []).toArray 87)) := (Below.refl _ _).alloc (Nat.le_refl _) _
  have hk1 : KC w (w.alloc (.cells (vec []).toArray 87)) := KC.of_below hb1
  have hge : Live (w.alloc (.cells (vec []).toArray 87)) bg br := hk1.cell hg
  have hgc : (w.alloc (.cells (vec []).toArray 87)).cell? ⟨bg, 0, none⟩ = some (.pointer (some ⟨br, 0, none⟩)) := hge
  have hrn := (hk1.rules hr).n
  have hro := (hk1.rules hr).ord
  have hs1 := hs.below hb1
  have h12 := hv.n12
  obtain ⟨A, cap, rfl, hc1, hc2, hcs⟩ := hs.open_
  have hst := @store_vec_same
  have HO : IntsAt (w.alloc (.cells (vec []).toArray 87)) (.slice (some ⟨br, 1, none⟩) 12 12) (ord12 P) := intsAt_sub (by rw [vec_ord12]; exact hro) (by simp [ord12]) (Nat.le_refl _) (Nat.le_refl _) (Nat.le_refl _) (ord12_fits hv)
  have HB1 := Lib.hid hb1
  clear hr hg hs hcs hro hk1 hb1
  by_cases hl : xs.length = P.n
  · have hcp := copy12 (w := w.alloc (.cells (vec []).toArray 87)) (b := w.heap.size) (o := 0) hs1 (by omega) (there_new w [])
    rw [fill_vec w xs (by omega)] at hcp
    have hl' : ((xs.length : Nat) : Int) = (P.n : Int) := by omega
    rw [hl] at hcp hs1
    rw [hl]
    have hsl := run_sliceAt_veca (w.alloc (.cells (vec []).toArray 87)) br 1
    have hsl2 := run_sliceAt_veca (w.alloc (.cells (vec []).toArray 87)) w.heap.size 0
    have hnl : xs.length ≤ (ord12 P).length := by simp [ord12]; omega
    have hno := normal_ord12 P xs 0 (by omega)
    have HS1 := Lib.hid hs1
    have HO' := Lib.hid HO
    clear HO hs1
    by_cases hn : normalB P.orders xs 0 = true
    · have he : takeErr P xs = 0 := by unfold takeErr; rw [if_pos hl, if_pos hn]
      have hve : takeVec P xs = xs := by unfold takeVec; rw [if_pos he]
      rw [hn] at hno
      rw [he, hve]
      go_enter Try.func71, Try.ntmps71
      go_wp2_with (first
        | (go_at_call 56; refine (valid_live _ bg br hge).mono ?_; rintro e w' ⟨rfl, rfl⟩)
        | (go_at_call 59; refine (normal_any _ _ _ (ord12 P) xs 0 HO'.out HS1.out hnl).mono ?_; rintro e w' ⟨rfl, rfl⟩)
        | (refine wpList_load_mid rfl 87 (.tmp 4) rfl w.heap.size 0 rfl (vec xs) _ (range_new _ _) Try.underlying87 rfl (by rw [length_vec]; exact info82) ?_))
      exact bodyPost_ret (results_cell_tmp rfl _ _ w.heap.size xs (.int .i64 0) rfl rfl (heap_alloc_new w _)) rfl ⟨rfl, (Below.refl _ _).alloc (Nat.le_refl _) _⟩
    · have he : takeErr P xs = 2 := by unfold takeErr; rw [if_pos hl, if_neg hn]
      have hve : takeVec P xs = [] := by unfold takeVec; rw [he]; rfl
      have hn' : normalB P.orders xs 0 = false := by simpa using hn
      rw [hn'] at hno
      rw [he, hve]
      go_enter Try.func71, Try.ntmps71
      go_wp2_with (first
        | (go_at_call 56; refine (valid_live _ bg br hge).mono ?_; rintro e w' ⟨rfl, rfl⟩)
        | (go_at_call 59; refine (normal_any _ _ _ (ord12 P) xs 0 HO'.out HS1.out hnl).mono ?_; rintro e w' ⟨rfl, rfl⟩)
        | (refine wpList_load_mid rfl 87 (.tmp 4) rfl w.heap.size 0 rfl (vec []) _ (range_new _ _) Try.underlying87 rfl (by rw [length_vec]; exact info82) ?_))
      exact bodyPost_ret (results_cell_tmp rfl _ _ w.heap.size [] (.int .i64 2) rfl rfl (heap_alloc_new w _)) rfl ⟨rfl, HB1.out⟩
  · have hl' : ((xs.length : Nat) : Int) ≠ (P.n : Int) := by omega
    have he : takeErr P xs = 3 := by unfold takeErr; rw [if_neg hl]
    have hve : takeVec P xs = [] := by unfold takeVec; rw [he]; rfl
    rw [he, hve]
    go_enter Try.func71, Try.ntmps71
    go_wp2_with (first
      | (go_at_call 56; refine (valid_live _ bg br hge).mono ?_; rintro e w' ⟨rfl, rfl⟩)
      | (refine wpList_load_mid rfl 87 (.tmp 4) rfl w.heap.size 0 rfl (vec []) _ (range_new _ _) Try.underlying87 rfl (by rw [length_vec]; exact info82) ?_))
    exact bodyPost_ret (results_cell_tmp rfl _ _ w.heap.size [] (.int .i64 3) rfl rfl (heap_alloc_new w _)) rfl ⟨rfl, HB1.out⟩
end Go.Proofs
namespace Go.Proofs
open Go.RowKit Go.Proofs.Pc
attribute [local simp, local go_sem] wide_fn wide_depth
inductive SW where
  | c (v : Value)
  | vs (l : List (List Int))
  | il (l : List Int)
  | any
def SW.holds : SW → Value → World → Prop
  | SW.c u, v, _ => v = u
  | SW.vs l, v, w => VecsAt w v l
  | SW.il l, v, w => IntsAt w v l
  | SW.any, _, _ => True
theorem SW.keep {s : SW} {v : Value} {w w' : World} (h : Below w.heap.size w w') : s.holds v w → s.holds v w' := by
  cases s with
  | c _ => exact id
  | vs l => exact fun hh => VecsAt.below hh h
  | il l => exact fun hh => IntsAt.below hh h
  | any => exact id
theorem r_asg {o : Oper} {a : Act} {w : World} {v : Value} (x : Operand) (ho : o.op = .assign x) (hx : a.eval x = v) : (execOp a.eval o).run Try.prog w = .ok (.value v) w := by
  unfold execOp; simp only [ho, hx]; rfl
theorem call70 (args : Array Value) (w : World) : (callFunc 72 args).run Try.prog w = .ok (.enter 72 args) w :=
  enters_of Try.func72 (by kernel_rfl) rfl args w
theorem fld64_0 (b : Nat) (w : World) : (Instr.fieldAt 64 (.pointer (some ⟨b, 0, none⟩)) 0).run Try.prog w = .ok (.pointer (some ⟨b, 0, none⟩)) w := by kernel_rfl
def mulErr (P : PcD) (xs ys : List Int) : Int := if takeErr P xs = 0 then takeErr P ys else takeErr P xs
theorem takeErr_NV {P : PcD} {xs : List Int} (h : takeErr P xs = 0) : NV P xs := by
  unfold takeErr at h
  by_cases hl : xs.length = P.n
  · rw [if_pos hl] at h
    by_cases hn : normalB P.orders xs 0 = true
    · refine ⟨hl, fun k hk => ?_⟩
      have := List.all_eq_true.1 hn k (by simpa using (by omega : k < xs.length))
      unfold normAt at this
      simp only [Bool.and_eq_true, decide_eq_true_eq] at this
      exact ⟨this.1, this.2.1⟩
    · rw [if_neg hn] at h; cases h
  · rw [if_neg hl] at h; cases h
def svM (bg br : Nat) (x y z : List Int) : List SW := [SW.c (.pointer (some ⟨bg, 0, none⟩)), SW.c (.pointer (some ⟨bg, 0, none⟩)), SW.c (.pointer (some ⟨bg, 0, none⟩)), SW.c (.pointer (some ⟨br, 0, none⟩)),
  SW.c (.pointer (some ⟨bg, 0, none⟩)), SW.c (.pointer (some ⟨bg, 0, none⟩)), SW.c (.pointer (some ⟨bg, 0, none⟩)), SW.c (.pointer (some ⟨br, 0, none⟩)),
  SW.c (.agg (vec x).toArray), SW.c (.agg (vec y).toArray), SW.vs [x, y], SW.c (.agg (vec z).toArray), SW.il z]
theorem take_R {P : PcD} (hv : Valid P) {w : World} {bg br : Nat} {sv : Value} {xs : List Int} (hg : Live w bg br) (hr : RulesAt w br P) (hs : IntsAt w sv xs) (hx : takeErr P xs = 0) :
    Calls Try.prog 71 #[.pointer (some ⟨bg, 0, none⟩), sv] w fun e w' => ∃ v, e = .returned v ∧ (v = .tuple #[.agg (vec xs).toArray, .int .i64 0] ∧ Below w.heap.size w w') :=
  (take_live hv w bg br hg hr sv xs hs).mono fun e w' ⟨he, hb⟩ => by
    have hvx : takeVec P xs = xs := by unfold takeVec; rw [if_pos hx]
    rw [hx, hvx] at he
    exact ⟨_, he, rfl, hb⟩
theorem list_R {P : PcD} (hv : Valid P) {w : World} {br : Nat} {x : List Int} (hr : RulesAt w br P) (hx : NV P x) :
    Calls Try.prog 72 #[.pointer (some ⟨br, 0, none⟩), .agg (vec x).toArray] w fun e w' => ∃ v, e = .returned v ∧ (IntsAt w' v x ∧ Below w.heap.size w w') :=
  (list_any hv w br hr x hx).mono fun _e _w' ⟨u, he, hu, hb⟩ => ⟨u, he, hu, hb⟩
/-- what Mul hands back -/
def MulRet (P : PcD) (xs ys : List Int) (w : World) (e : Ending) (w' : World) : Prop :=
  (∃ u, e = .returned (.tuple #[u, .int .i64 (mulErr P xs ys)]) ∧ IntsAt w' u (if mulErr P xs ys = 0 then mulP P xs ys else [])) ∧ Below w.heap.size w w'
set_option maxRecDepth 100000 in
set_option maxHeartbeats 400000 in
theorem mul_live_in {P : PcD} (hv : Valid P) (w : World) (bg br : Nat) (hg : Live w bg br) (hr : RulesAt w br P) (s1 s2 : Value) (xs ys : List Int) (h1 : IntsAt w s1 xs) (h2 : IntsAt w s2 ys) (hx : takeErr P xs = 0) (hy : takeErr P ys = 0) :
    CallsIn Fence.wide 3 Try.prog 30 #[.pointer (some ⟨bg, 0, none⟩), s1, s2] w (MulRet P xs ys w) := by
  have hnx := takeErr_NV hx
  have hny := takeErr_NV hy
  have hm : mulErr P xs ys = 0 := by unfold mulErr; rw [if_pos hx, hy]
  have hnz := mulP_NV hv (y := ys) hnx
  have HR := Lib.hid hr
  have HG := Lib.hid hg
  have HS1 := Lib.hid h1
  have HS2 := Lib.hid h2
  have hst := @store_vec_new
  have HO := Lib.hid (take_R hv hg hr h1 hx)
  have HT : ∀ w2, Below w.heap.size w w2 → _ := fun w2 hb => take_R hv ((KC.of_below hb).cell hg) ((KC.of_below hb).rules hr) (h2.below hb) hy
  have HT := Lib.hid HT
  clear hr hg h1 h2
  gi_enter Try.func30, Try.ntmps30
  gi_wp2_with (first
    | (with_reducible refine (callsIn_wide.2 HO.out).mono ?_; rintro e w1 ⟨v, rfl, rfl, hb1⟩)
    | (with_reducible refine (callsIn_wide.2 (HT.out _ (hb1.alloc hb1.size _))).mono ?_; rintro e w2 ⟨v, rfl, rfl, hb2⟩))
  have hkc : KC w (w2.alloc (.cells (vec ys).toArray 87)) := KC.of_below (((hb1.alloc hb1.size _).trans (hb2.mono (by have := hb1.size; simp; omega))).alloc (by have := hb1.size; have := hb2.size; simp at this; omega) _)
  have hbw : Below w.heap.size w (w2.alloc (.cells (vec ys).toArray 87)) := ((hb1.alloc hb1.size _).trans (hb2.mono (by have := hb1.size; simp; omega))).alloc (by have := hb1.size; have := hb2.size; simp at this; omega) _
  have hrx : (w2.alloc (.cells (vec ys).toArray 87)).rangeAt w1.heap.size 0 (vec xs) := (KC.of_below ((Below.refl _ w2).alloc (Nat.le_refl _) _)).range ((KC.of_below hb2).range (range_new w1 xs))
  have hry : (w2.alloc (.cells (vec ys).toArray 87)).rangeAt w2.heap.size 0 (vec ys) := range_new w2 ys
  generalize w2.alloc (.cells (vec ys).toArray 87) = W1 at *
  generalize w1.heap.size = bx at *
  generalize w2.heap.size = by_ at *
  have hfw : ∀ {w : World}, Below W1.heap.size W1 w → RulesAt w br P ∧ w.cell? ⟨bg, 0, none⟩ = some (.pointer (some ⟨br, 0, none⟩)) := fun h => ⟨(hkc.trans (KC.of_below h)).rules HR.out, (hkc.trans (KC.of_below h)).cell HG.out⟩
  clear hb1 hb2 hst
  refine wpIn_region_tail (by kernel_rfl) 29 13 (tailed_of (by kernel_rfl)) (fun w => Below W1.heap.size W1 w) (fun q v w => ((svM bg br xs ys (mulP P xs ys)).getD q SW.any).holds v w) (fun w w' => Below w.heap.size w w') (fun q v w w' h => SW.keep h) (Nat.le_of_ble_eq_true rfl) (Below.refl _ _).drew ?_ ?_
  · intro q o a w hq ho hS hsame hpre
    have hcases : q = 0 ∨ q = 1 ∨ q = 2 ∨ q = 3 ∨ q = 4 ∨ q = 5 ∨ q = 6 ∨ q = 7 ∨ q = 8 ∨ q = 9 ∨ q = 10 ∨ q = 11 ∨ q = 12 := by omega
    rcases hcases with rfl | rfl | rfl | rfl | rfl | rfl | rfl | rfl | rfl | rfl | rfl | rfl | rfl
    · obtain rfl := Option.some.inj ho; exact ⟨rfl, rfl, (by exact wpW_val (r_move (.tmp 0) rfl (hsame.out 0 (.inl (by decide)))) ⟨_, rfl, hS, Below.refl _ _, rfl⟩)⟩
    · obtain rfl := Option.some.inj ho; exact ⟨rfl, rfl, (by exact wpW_val (r_nil (.tmp 29) _ rfl (hpre ⟨0, .data⟩ (by simp) rfl)) ⟨_, rfl, hS, Below.refl _ _, rfl⟩)⟩
    · obtain rfl := Option.some.inj ho; exact ⟨rfl, rfl, (by exact wpW_val (r_fld (.tmp 30) _ rfl (hpre ⟨1, .data⟩ (by simp) rfl) (fld64_0 _ _)) ⟨_, rfl, hS, Below.refl _ _, rfl⟩)⟩
    · obtain rfl := Option.some.inj ho; exact ⟨rfl, rfl, (by exact wpW_val (r_load62 (.tmp 31) ⟨bg, 0, none⟩ rfl (hpre ⟨2, .data⟩ (by simp) rfl) (hfw hS).2) ⟨_, rfl, hS, Below.refl _ _, rfl⟩)⟩
    · obtain rfl := Option.some.inj ho; exact ⟨rfl, rfl, (by exact wpW_val (r_move (.tmp 0) rfl (hsame.out 0 (.inl (by decide)))) ⟨_, rfl, hS, Below.refl _ _, rfl⟩)⟩
    · obtain rfl := Option.some.inj ho; exact ⟨rfl, rfl, (by exact wpW_val (r_nil (.tmp 33) _ rfl (hpre ⟨4, .data⟩ (by simp) rfl)) ⟨_, rfl, hS, Below.refl _ _, rfl⟩)⟩
    · obtain rfl := Option.some.inj ho; exact ⟨rfl, rfl, (by exact wpW_val (r_fld (.tmp 34) _ rfl (hpre ⟨5, .data⟩ (by simp) rfl) (fld64_0 _ _)) ⟨_, rfl, hS, Below.refl _ _, rfl⟩)⟩
    · obtain rfl := Option.some.inj ho; exact ⟨rfl, rfl, (by exact wpW_val (r_load62 (.tmp 35) ⟨bg, 0, none⟩ rfl (hpre ⟨6, .data⟩ (by simp) rfl) (hfw hS).2) ⟨_, rfl, hS, Below.refl _ _, rfl⟩)⟩
    · obtain rfl := Option.some.inj ho; exact ⟨rfl, rfl, (by exact wpW_val (r_load82 (.tmp 8) _ _ xs rfl (hsame.out 8 (.inl (by decide))) ((KC.of_below hS).range hrx)) ⟨_, rfl, hS, Below.refl _ _, rfl⟩)⟩
    · obtain rfl := Option.some.inj ho; exact ⟨rfl, rfl, (by exact wpW_val (r_load82 (.tmp 10) _ _ ys rfl (hsame.out 10 (.inl (by decide))) ((KC.of_below hS).range hry)) ⟨_, rfl, hS, Below.refl _ _, rfl⟩)⟩
    · obtain rfl := Option.some.inj ho; exact ⟨rfl, rfl, (by exact wpW_val (r_bs2 (.tmp 37) (.tmp 38) xs ys rfl (hpre ⟨8, .data⟩ (by simp) rfl) (hpre ⟨9, .data⟩ (by simp) rfl)) ⟨_, rfl, hS.trans (((Below.refl _ _).alloc (Nat.le_refl _) _).mono hS.size), (Below.refl _ _).alloc (Nat.le_refl _) _, vecs2 _ xs ys⟩)⟩
    · obtain rfl := Option.some.inj ho; exact ⟨rfl, rfl, (by exact wpW_call (r_call2 (.tmp 36) (.tmp 39) _ _ _ rfl (hpre ⟨7, .data⟩ (by simp) rfl) rfl call71) (mul_R hv (hfw hS).1 (hpre ⟨10, .data⟩ (by simp) rfl) hnx (nvs1 hny) (by simp)) (fun v w'' h => ⟨v, rfl, hS.trans (h.2.mono hS.size), h.2, h.1⟩))⟩
    · obtain rfl := Option.some.inj ho; exact ⟨rfl, rfl, (by exact wpW_call (r_call2 (.tmp 32) (.tmp 40) _ _ _ rfl (hpre ⟨3, .data⟩ (by simp) rfl) (hpre ⟨11, .data⟩ (by simp) rfl) call70) (list_R hv (hfw hS).1 hnz) (fun v w'' h => ⟨v, rfl, hS.trans (h.2.mono hS.size), h.2, h.1⟩))⟩
  · intro a w' hS hsame hsl
    have hu := hsl 12 (by omega)
    have hfr := hsame.frame (Nat.le_of_ble_eq_true rfl)
    refine wpOpIn_of (o := ⟨some 6, .assign (.tmp 41), 22, "collect.go:331", _, none⟩) rfl rfl (wpW_val (r_asg (.tmp 41) rfl rfl) (wpOpIn_of (o := ⟨some 7, .assign (.const (.int .i64 0)), 29, "collect.go:331", _, none⟩) rfl rfl (wpW_val (r_asg (.const (.int .i64 0)) rfl rfl) ?_)))
    have e41 : a.eval (.tmp 41) = a.tmps.getD (29 + 12) undef := rfl
    have ec : ∀ a : Act, a.eval (.const (.int .i64 0)) = .int .i64 0 := fun _ => rfl
    rw [e41, ec]
    generalize a.tmps.getD (29 + 12) undef = u at *
    have HU : IntsAt w' u (mulP P xs ys) := hu
    clear hu hsl hsame e41 ec
    generalize (fun i => a.tmps.getD (29 + i) undef) = vs at hfr
    subst hfr
    dsimp only
    simp only [Act.put, List.take_succ_cons, List.take_zero, List.drop_succ_cons, List.drop_zero, List.map_cons, List.map_nil, List.range, List.range.loop, List.cons_append, List.nil_append, List.append_nil, List.setIfInBounds_toArray, List.set_cons_succ, List.set_cons_zero, Nat.reduceAdd]
    have hfin : MulRet P xs ys w (.returned (.tuple #[u, .int .i64 0])) w' := ⟨⟨u, by rw [hm], by rw [if_pos hm]; exact HU⟩, hbw.trans (hS.mono hbw.size)⟩
    clear hfw hnx hny hnz hrx hry hkc hbw HO HT HR HG HS1 HS2 HU hS
    gi_wp2_with fail
    exact bodyPost_ret (results_tmp2 (t := 6) (u := 7) rfl _ _ _) rfl hfin
theorem mul_live {P : PcD} (hv : Valid P) (w : World) (bg br : Nat) (hg : Live w bg br) (hr : RulesAt w br P) (s1 s2 : Value) (xs ys : List Int) (h1 : IntsAt w s1 xs) (h2 : IntsAt w s2 ys) (hx : takeErr P xs = 0) (hy : takeErr P ys = 0) :
    Calls Try.prog 30 #[.pointer (some ⟨bg, 0, none⟩), s1, s2] w (MulRet P xs ys w) := callsIn_wide.1 (mul_live_in hv w bg br hg hr s1 s2 xs ys h1 h2 hx hy)
end Go.Proofs
namespace Go.Proofs
open Go.RowKit Go.Proofs.Pc Go.Shelf
theorem info22 : (Try.prog.info? 22).map (fun i => (i.zero, i.size, i.bytes)) = some (some (.slice none 0 0), 1, 24) := by kernel_rfl
theorem made22 (n : Nat) : madeCells (Value.slice none 0 0).cells n = Array.replicate n (.slice none 0 0) := by
  apply Array.ext_getElem?
  intro k
  simp only [madeCells, Value.cells, Array.getElem?_map, Array.getElem?_range, Array.getElem?_replicate]
  by_cases h : k < n
  · simp [h, Nat.mod_one]
  · simp [h]
theorem make23 (w : World) (n : Nat) (hn : n ≤ 1000) : (Instr.makeSlice 23 (.int .i64 (n : Int)) (.int .i64 (n : Int))).run Try.prog w =
    .ok (.slice (some ⟨w.heap.size, 0, none⟩) n n) (w.alloc (.cells (Array.replicate n (.slice none 0 0)) 22)) := by
  have h := info22
  cases hq : Try.prog.info? 22 with
  | none => simp [hq] at h
  | some i =>
    simp [hq] at h
    obtain ⟨hz, hs, hb⟩ := h
    have := run_makeSlice (P := Try.prog) w 23 22 i (.slice none 0 0) Try.underlying23 hq hz .i64 .i64 n n (by omega) (Int.le_refl _) (by rw [hs]; simp; omega) (by rw [hb]; omega) (by omega)
    rw [this, hs, Int.toNat_natCast, Nat.mul_one, made22]
/-- All blocks of cells of these types are as they were. -/
def Agree (T : List Nat) (w w' : World) : Prop := ∀ (k : Nat) (C : Array Value) (t : TypeId) (fr : Nat × Nat), t ∈ T → w.heap[k]? = some (Obj.cells C t fr) → w'.heap[k]? = some (Obj.cells C t fr)
section
variable {T : List Nat} {w w' w'' : World}
theorem Agree.refl : Agree T w w := fun _ _ _ _ _ h => h
theorem Agree.trans (h : Agree T w w') (k : Agree T w' w'') : Agree T w w'' := fun i C t fr ht hi => k i C t fr ht (h i C t fr ht hi)
theorem Agree.below (h : Below w.heap.size w w') : Agree T w w' := fun k _C _t _fr _ hk => (h.block k (Array.getElem?_eq_some_iff.1 hk).1).trans hk
theorem Agree.grown {row : Option Nat} (h : w.grownBy w' row) (hr : ∀ r, row = some r → ∃ C t fr, w.heap[r]? = some (Obj.cells C t fr) ∧ t ∉ T) : Agree T w w' := fun k C t fr ht hk => by
  refine (h.block k (Array.getElem?_eq_some_iff.1 hk).1 (fun e => ?_)).trans hk
  obtain ⟨C', t', fr', h1, h2⟩ := hr k e.symm
  rw [hk] at h1
  cases h1
  exact h2 ht
theorem Agree.setCell {b j : Nat} {v : Value} {C : Array Value} {t : TypeId} {fr : Nat × Nat} (h : w.heap[b]? = some (Obj.cells C t fr)) (ht : t ∉ T) : Agree T w (w.setCell ⟨b, j, none⟩ v) := fun k C' t' fr' ht' hk => by
  rw [Below.heap_setCell]
  · exact hk
  · intro e
    have : k = b := e
    subst this
    rw [hk] at h
    cases h
    exact ht ht'
theorem Agree.mono {T' : List Nat} (h : Agree T w w') (hs : ∀ t ∈ T', t ∈ T) : Agree T' w w' := fun k C t fr ht hk => h k C t fr (hs t ht) hk
end
/-- u reads as xs by cells of blocks of numbers alone. -/
def IntsT (w : World) (u : Value) (xs : List Int) : Prop := ∀ w' : World, Agree [3] w w' → IntsAt w' u xs
theorem IntsT.at_ {w : World} {u : Value} {xs : List Int} (h : IntsT w u xs) : IntsAt w u xs := h w Agree.refl
theorem IntsT.keep {w w1 : World} {u : Value} {xs : List Int} (h : IntsT w u xs) (hk : Agree [3] w w1) : IntsT w1 u xs := fun w' hw => h w' (hk.trans hw)
theorem intsT_of_owns {w : World} {base : Nat} {v : Value} {n : Nat} {xs : List Int} (h : w.ownsRow base 3 1 v n (xs.map (Value.int .i64))) (hv : v ≠ .slice none 0 0) (hf : Fits xs) : IntsT w v xs := by
  obtain ⟨hl, h⟩ := h
  rcases h with ⟨rfl, -⟩ | ⟨g, cap, cur, rfl, hbg, hg, hnc, hcm, hcs, htake⟩
  · exact absurd rfl hv
  · intro w' hw
    have hg' := hw g _ _ _ (by simp) hg
    refine ⟨⟨_, n, cap, rfl, by simpa [ints] using hl.symm, hnc, hcm, fun _ => ⟨g, 0, rfl, fun j u hu => ?_⟩⟩, hf⟩
    rw [cell_of_row _ _ _ _ _ _ hg', Nat.zero_add]
    have hj : j < (ints xs).length := (List.getElem?_eq_some_iff.1 hu).1
    have : (cur.toList.take (n * 1))[j]? = some u := by rw [htake]; exact hu
    rw [List.getElem?_take] at this
    split at this
    · simpa using this
    · cases this
theorem intsT_nil {w : World} : IntsT w (.slice none 0 0) [] := fun _ _ => intsAt_nil
theorem clone_T (w : World) (v : Value) (xs : List Int) (h : IntsAt w v xs) (hl : xs.length ≤ 1000) : Calls Try.prog 94 #[v] w fun e w' => ∃ u, e = .returned u ∧ IntsT w' u xs ∧ Below w.heap.size w w' := by
  obtain ⟨A, cap, rfl, hcap, hmax, hr⟩ := h.open_
  rcases Nat.eq_zero_or_pos xs.length with h0 | h0
  · obtain rfl : xs = [] := List.length_eq_zero_iff.1 h0
    cases A with
    | none =>
      exact (Any.slices_Clone_int_nil Try.laysClone _ _ w).mono fun e w' ⟨he, hw⟩ => by subst hw; exact ⟨_, he, intsT_nil, Below.refl _ _⟩
    | some a =>
      exact (Any.slices_Clone_int_zero Try.laysClone a cap w).mono fun e w' ⟨u, he, ho, hn, hb⟩ => ⟨u, he, intsT_of_owns ho hn h.2, hb⟩
  · obtain ⟨b, off, rfl, hc⟩ := hr h0
    exact (Any.slices_Clone_int Try.laysClone b off xs.length cap xs w (Nat.le_refl _) (by omega) hc).mono fun e w' ⟨u, he, ho, hn, hb⟩ => ⟨u, he, intsT_of_owns (by rwa [List.take_of_length_le (Nat.le_refl _)] at ho) hn h.2, hb⟩
end Go.Proofs
namespace Go.Proofs
open Go.RowKit Go.Proofs.Pc
/-- block bo: n values, the first k are copies -/
def Copies (bo n k : Nat) (L : List (List Int)) (w : World) : Prop :=
  ∃ C : Array Value, w.heap[bo]? = some (.cells C 22 (0, 0)) ∧ C.size = n ∧ ∀ j, j < k → ∃ u, C[j]? = some u ∧ IntsT w u (L.getD j [])
theorem copies_next {bo n k : Nat} {L : List (List Int)} {wr w2 : World} {C : Array Value} {u : Value} (hC : w2.heap[bo]? = some (.cells C 22 (0, 0))) (hs : C.size = n) (hcs : ∀ j, j < k → ∃ u, C[j]? = some u ∧ IntsT wr u (L.getD j []))
    (hu : IntsT w2 u (L.getD k [])) (hb : Below wr.heap.size wr w2) (hk : k < n) : Copies bo n (k + 1) L (w2.setCell ⟨bo, k, none⟩ u) := by
  have hag : Agree [3] w2 (w2.setCell ⟨bo, k, none⟩ u) := Agree.setCell hC (by simp)
  refine ⟨C.setIfInBounds k u, by simp [World.setCell, Array.getElem?_modify, hC], by simpa using hs, fun j hj => ?_⟩
  rcases Nat.lt_or_ge j k with h | h
  · obtain ⟨u', h1, h2⟩ := hcs j h
    exact ⟨u', by rw [Array.getElem?_setIfInBounds_ne (by omega)]; exact h1, (h2.keep (Agree.below hb)).keep hag⟩
  · obtain rfl : j = k := by omega
    exact ⟨u, by simp [hs, hk], hu.keep hag⟩
/-- u reads as the table L by cells of blocks of numbers and of slices of numbers alone. -/
def TabT (w : World) (u : Value) (L : List (List Int)) : Prop := ∀ w' : World, Agree [3, 22] w w' → Tab w' u L
theorem TabT.at_ {w : World} {u : Value} {L : List (List Int)} (h : TabT w u L) : Tab w u L := h w Agree.refl
theorem TabT.keep {w w1 : World} {u : Value} {L : List (List Int)} (h : TabT w u L) (hk : Agree [3, 22] w w1) : TabT w1 u L := fun w' hw => h w' (hk.trans hw)
theorem tab_of_copies {bo n : Nat} {L : List (List Int)} {w : World} (hn : L.length = n) (hl : n ≤ 1000) (h : Copies bo n n L w) : TabT w (.slice (some ⟨bo, 0, none⟩) n n) L := by
  obtain ⟨C, hC, hs, hcs⟩ := h
  intro w' hw
  have hC' := hw bo _ _ _ (by simp) hC
  refine ⟨C.toList, ⟨_, n, n, rfl, by simp [hs], Nat.le_refl _, by unfold maxLen; omega, fun _ => ⟨bo, 0, rfl, fun j v hv => ?_⟩⟩, by simp [hs, hn], fun i hi => ?_⟩
  · rw [cell_of_row _ _ _ _ _ _ hC']
    simpa using hv
  · obtain ⟨u, h1, h2⟩ := hcs i (by omega)
    exact ⟨u, by simpa using h1, h2 w' (hw.mono (by simp))⟩
set_option maxRecDepth 100000 in
set_option maxHeartbeats 400000 in
theorem own_new (w : World) (v : Value) (L : List (List Int)) (h : Tab w v L) (hl : L.length ≤ 1000) (hls : ∀ k, k < L.length → (L.getD k []).length ≤ 1000) :
    Calls Try.prog 95 #[v] w fun e w' => ∃ u, e = .returned u ∧ TabT w' u L ∧ Below w.heap.size w w' := by
  obtain ⟨A, cap, rfl, hcap, hmax, hr⟩ := h.open_
  have hmk := make23 w L.length hl
  have HR := Lib.hid hr
  have HLS := Lib.hid hls
  clear hr hls h
  go_enter Try.func95, Try.ntmps95
  go_wp2_with fail
  generalize hn : L.length = n at *
  go_loopw [4, 5, 11] (fun _ _ i wr => ∃ k : Nat, k ≤ n ∧ i = .int .i64 k ∧ Copies w.heap.size n k L wr ∧ Below w.heap.size w wr) (fun _ _ i _ => n - (intOf i).toNat)
  case atStart => exact ⟨0, Nat.zero_le _, by go_num, ⟨_, heap_alloc_new w _, by simp, fun j hj => absurd hj (by omega)⟩, (Below.refl _ _).alloc (Nat.le_refl _) _⟩
  case round =>
    obtain ⟨k, hk, rfl, ⟨C, hC, hCs, hcs⟩, hb⟩ := hrel
    by_cases hlt : k < n
    · obtain ⟨b, off, rfl, hx⟩ := HR.out (by omega)
      obtain ⟨u0, hu0, hr0⟩ := hx k hlt
      have hc1 : wr.cell? ⟨b, off + k, none⟩ = some u0 := (hb.cell (p := ⟨b, off + k, none⟩) (World.block_lt_of_cell? w _ hu0)).trans hu0
      have HI := Lib.hid (hr0.below hb)
      have HX := Lib.hid (HLS.out k hlt)
      have HC := Lib.hid hC
      have HCS := Lib.hid hcs
      have HB := Lib.hid hb
      have hbl : w.heap.size < wr.heap.size := (Array.getElem?_eq_some_iff.1 hC).1
      have hk0 : (0 : Int) ≤ (k : Int) := Int.natCast_nonneg _
      have hk1 : (k : Int) < (n : Int) := by omega
      clear hx hr0 hC hcs hb hu0 hmk
      go_wp2_with (first
        | (go_at_call 94
           refine (clone_T wr u0 (L.getD k []) HI.out HX.out).mono ?_
           rintro e w2 ⟨u, rfl, hu, hb2⟩
           obtain ⟨A2, n2, cap2, rfl⟩ : ∃ (A : Option Addr) (n c : Nat), u = .slice A n c := by
             obtain ⟨A2, cap2, h, -⟩ := hu.at_.open_
             exact ⟨_, _, _, h⟩
           have hC2 : w2.heap[w.heap.size]? = some (.cells C 22 (0, 0)) := (hb2.block _ hbl).trans HC.out
           obtain ⟨cv, hcv⟩ : ∃ cv, C[k]? = some cv := ⟨_, Array.getElem?_eq_getElem (by omega)⟩
           have hc2 : w2.cell? ⟨w.heap.size, k, none⟩ = some cv := by simp [World.cell?, hC2, hcv]
           have hf2 : w2.frozen? ⟨w.heap.size, k, none⟩ = false := by simp [World.frozen?, hC2]
           have HU := Lib.hid hu
           have HB2 := Lib.hid hb2
           have HC2 := Lib.hid hC2
           clear hu hb2 hC2))
      all_goals first
        | (go_round
           case rel => exact ⟨k + 1, by omega, by go_num, copies_next HC2.out hCs HCS.out HU.out HB2.out hlt, (HB.out.trans (HB2.out.mono HB.out.size)).setCell (p := ⟨w.heap.size, k, none⟩) (Nat.le_refl _) _⟩
           case measure => simp [intOf]; omega)
    · obtain rfl : k = n := by omega
      have hfin := tab_of_copies (w := wr) (bo := w.heap.size) hn hl ⟨C, hC, hCs, hcs⟩
      have HF := Lib.hid hfin
      have HB := Lib.hid hb
      clear hfin hcs hC hb HR HLS hmk
      go_wp2_with fail
      all_goals first
        | (exfalso; omega)
        | exact bodyPost_ret (results_tmp (t := 2) rfl _ _ _) rfl ⟨_, rfl, HF.out, HB.out⟩
end Go.Proofs
