/- Tm; Of0; Vectors by value: stores, loads, builds; the contracts of unit, mul, list; X1; X2. -/
import Derived.Test.YtnhoiompdjabbaaA2
import Derived.BigRegion
import Derived.ChangeAlike
import Derived.Laws.CopyOwn
namespace Go.Proofs
open Go.RowKit Go.Proofs.Pc

def start (P : PcD) (d i : Nat) (x : List Int) : List Int := if x.getD i 0 + 1 = P.ord i then byF (timesF P d) P.n (P.pow i) ((bump x i).set i 0) else bump x i
theorem rules_step {w : World} {bc br : Nat} {P : PcD} (h : RulesAt w br P) (hne : bc ≠ br) (n k : Nat) (v : Value) : RulesAt ((w.drewN n).setCell ⟨bc, k, none⟩ v) br P :=
  h.grown (only_setCell (only_drewN (World.grownBy.refl w _) n) (.inl rfl) v) (by simp; omega)
theorem norm_pow {P : PcD} (hv : Valid P) {y : List Int} {i d : Nat} (hy : Norm P y (i + 1)) (hd : P.n ≤ i + (d + 1)) : ∀ k, k < P.n → 0 ≤ y.getD k 0 ∧ y.getD k 0 ≤ 1000 ∧ (0 < y.getD k 0 → P.n ≤ k + d) := by
  intro k hk
  have h1 := hy.2 k hk
  have h2 := hv.ord2 k hk
  refine ⟨by omega, by omega, fun h => ?_⟩
  rcases Nat.lt_or_ge k (i + 1) with h3 | h3
  · have := h1.2.2 h3; omega
  · omega

set_option maxRecDepth 100000 in
set_option maxHeartbeats 400000 in
theorem times_of_by {P : PcD} (hv : Valid P) {d : Nat} (HB : ByOk P d) : TimesOk P (d + 1) := by
  intro w bc br x i hc hr hne hx hi hd
  have hn12 := hv.n12
  have HB' := Lib.hid HB
  clear HB
  have hcp := hc.ptr
  have hrn := hr.n
  have hbc := hc.lt
  have hbr := hr.lt
  have hlen := hx.1
  have hxi := hx.2 i hi
  have hoi := hv.ord2 i hi
  have hri := hr.ordc (i := i) (by omega)
  have hst := @store_vec_new
  obtain ⟨sv, w2, hsl, hcl, hc2, hg2⟩ := slice_clear (w := w.alloc (.cells (vec x).toArray 82)) (i := i) (hc.below ((Below.refl _ _).alloc (Nat.le_refl _) _)) (by omega)
  have hg2' : w.grownBy w2 (some bc) := only_trans (World.grownBy_alloc w _ _) hg2
  have hr2 := hr.grown hg2' (by simp; omega)
  have hR2 : w2.heap[w.heap.size]? = some (.cells (vec x).toArray 82 (0, 0)) := (hg2.block w.heap.size (by simp) (by simp; omega)).trans (heap_alloc_new w _)
  have hci2 := hc2.cell (k := i) (by omega)
  have hcp2 := hc2.ptr
  have hfz2 := hc2.frozen (1 + i)
  have hri2 := hr2.ordc (i := i) (by omega)
  rw [getD_cleared, if_pos (Nat.le_refl i)] at hci2
  have hi0 : (0 : Int) ≤ (i : Int) := Int.natCast_nonneg _
  have hi1 : (i : Int) < 12 := by omega
  have hbump : CollAt (w2.setCell ⟨bc, 1 + i, none⟩ (.int .i64 (x.getD i 0 + 1))).drew bc br (bump x i) :=
    hc2.setv (by omega) fun k hk => by
      rw [getD_bump x i k (by omega), getD_cleared]
      by_cases e : k = i
      · simp [e]
      · simp only [e, if_false]
        by_cases h : k < i
        · rw [if_pos h, if_pos (by omega)]
        · rw [if_neg h, if_neg (by omega)]
  have hr3 : RulesAt (w2.setCell ⟨bc, 1 + i, none⟩ (.int .i64 (x.getD i 0 + 1))).drew br P := hr2.grown (only_drew (only_setCell (World.grownBy.refl w2 _) (.inl rfl) _)) (by simp; omega)
  have hg3 : w.grownBy (w2.setCell ⟨bc, 1 + i, none⟩ (.int .i64 (x.getD i 0 + 1))).drew (some bc) := only_drew (only_setCell hg2' (.inl rfl) _)
  have hR3 : (w2.setCell ⟨bc, 1 + i, none⟩ (.int .i64 (x.getD i 0 + 1))).drew.heap[w.heap.size]? = some (.cells (vec x).toArray 82 (0, 0)) := (Below.heap_setCell w2 ⟨bc, 1 + i, none⟩ _ w.heap.size (by simp; omega)).trans hR2
  generalize hm : x.getD i 0 = m at *
  generalize ho : P.ord i = o at *
  have HM := Lib.hid hm
  have HO := Lib.hid ho
  have HC := Lib.hid hc
  have HB3 := Lib.hid hbump
  have HR3 := Lib.hid hr3
  have HG3 := Lib.hid hg3
  have HRb3 := Lib.hid hR3
  clear hm ho hbump hr3 hg3 hR3
  have HR := Lib.hid hr
  have HX := Lib.hid hx
  have HC2 := Lib.hid hc2
  have HR2 := Lib.hid hr2
  have HG2 := Lib.hid hg2'
  have HRb := Lib.hid hR2
  have HL := Lib.hid hlen
  clear hc hr hx hc2 hr2 hg2' hg2 hR2 hlen
  go_enter Try.func79, Try.ntmps79
  go_wp2_with (first | (refine wpList_load_mid rfl 82 (.tmp 8) rfl bc 1 rfl (vec x) _ HC.out.range Try.underlying82 rfl (by rw [length_vec]; exact info82) ?_))
  go_region
  generalize (w2.setCell ⟨bc, 1 + i, none⟩ (.int .i64 (m + 1))).drew = w3 at *
  have hcp3 := HB3.out.ptr
  have hri3 := HR3.out.ordc (i := i) (by omega)
  have hrn3 := HR3.out.n
  have hfz3 := HB3.out.frozen (1 + i)
  have hci3 := HB3.out.cell (k := i) (by omega)
  rw [getD_bump x i i (by rw [HL.out]; exact hi), if_pos rfl, HM.out] at hci3
  rw [HO.out] at hri3
  clear hcp hrn hcp2 hfz2 hri2 hci2 hri hsl hcl
  have hxx : start P d i x = (if m + 1 = o then byF (timesF P d) P.n (P.pow i) ((bump x i).set i 0) else bump x i) := by unfold start; rw [HM.out, HO.out]
  have HXX := Lib.hid hxx
  clear hxx
  have hlb : i < (bump x i).length := by rw [length_bump, HL.out]; exact hi
  by_cases hmo : m + 1 = o
  · have d1 : (m + 1 == o) = true := by simpa using hmo
    have HMO := Lib.hid hmo
    have hnb : NV P ((bump x i).set i 0) := by
      refine ⟨by simp [length_bump, HL.out], fun k hk => ?_⟩
      have ho' := hv.ord2 k hk
      have hxk := HX.out.2 k hk
      rw [getD_set, getD_bump x i k (by rw [HL.out]; exact hi)]
      by_cases hik : i = k
      · subst hik; simp [length_bump, HL.out, hi]; omega
      · simp only [hik, false_and, if_false, Ne.symm hik]
        split <;> omega
    have HNB := Lib.hid hnb
    clear hmo hnb
    go_wp2_with fail
    go_quiet (fail)
    go_wp2_with (first
      | (refine wpList_load_mid rfl 82 (.tmp 55) rfl br _ rfl (vec (P.pow i)) _ ((rules_step HR3.out hne _ _ _).pow i (by omega)) Try.underlying82 rfl (by rw [length_vec]; exact info82) ?_)
      | (go_at_call 80; refine (HB'.out _ bc br ((bump x i).set i 0) (P.pow i) (CollAt.set (w := w3.drewN _) HB3.out hlb 0) (rules_step HR3.out hne _ _ _) hne HNB.out (norm_pow hv (hv.pow i hi) hd)).mono ?_; rintro e w4 ⟨rfl, hcl, hg4⟩))
    have hgl : w.grownBy w4 (some bc) := only_trans (only_setCell (only_drewN HG3.out _) (.inl rfl) _) hg4
    have hRl : w4.heap[w.heap.size]? = some (.cells (vec x).toArray 82 (0, 0)) := (hg4.block w.heap.size (by have := HG3.out.size; have := (Array.getElem?_eq_some_iff.1 HRb3.out).1; simpa [World.setCell] using this) (by simp; omega)).trans ((Below.heap_setCell _ ⟨bc, 1 + i, none⟩ _ w.heap.size (by simp; omega)).trans HRb3.out)
    have hxg := HXX.out.trans (if_pos HMO.out)
    have HGL := Lib.hid hgl
    have HRL := Lib.hid hRl
    have HCL := Lib.hid hcl
    have hnl : NV P (byF (timesF P d) P.n (P.pow i) ((bump x i).set i 0)) := byF_NV hv d _ _ HNB.out
    have HNL := Lib.hid hnl
    generalize byF (timesF P d) P.n (P.pow i) ((bump x i).set i 0) = x2 at *
    generalize hwl : w4 = wl at *
    clear hwl hgl hRl hcl hnl hg4 hcp3 hri3 hrn3 hci3 hfz3
    have hgl : w.grownBy wl (some bc) := HGL.out
    have hrl := HR.out.grown hgl (by simp; omega)
    have HRl := Lib.hid hrl
    have hrnl := hrl.n
    have hcpl := HCL.out.ptr
    have HXg := Lib.hid hxg
    clear hgl hrl hxg
    go_wp2_with fail
    go_loopw [5] (fun s5 wr => ∃ j : Nat, i + 1 ≤ j ∧ j ≤ P.n ∧ s5 = .int .i64 j ∧ CollAt wr bc br (foldTo (fun t x' => iter (byF (timesF P d) P.n (P.cj (i + 1 + t) i)) (x.getD (i + 1 + t) 0).toNat x') (j - (i + 1)) x2) ∧ wl.grownBy wr (some bc)) (fun s5 _ => P.n - (intOf s5).toNat)
    case atStart => exact ⟨i + 1, Nat.le_refl _, by omega, by go_num, by simpa [foldTo] using HCL.out, World.grownBy.refl _ _⟩
    case round =>
      obtain ⟨j, hj1, hj2, rfl, hcj, hgj⟩ := hrel
      have hcpj := hcj.ptr
      have hrj := HRl.out.grown hgj (by simp; omega)
      have hrnj := hrj.n
      by_cases hlt : j < P.n
      · have hxj := HX.out.2 j hlt
        have hoj := hv.ord2 j hlt
        have hRj : wr.cell? ⟨w.heap.size, j, none⟩ = some (.int .i64 (x.getD j 0)) := by
          rw [World.cell?_of_block (w := wl) (hgj.block w.heap.size (Array.getElem?_eq_some_iff.1 HRL.out).1 (by simp; omega)), cell_of_row _ _ _ _ _ _ HRL.out]
          simpa using getElem?_vec x (k := j) (by omega)
        have hj0 : (0 : Int) ≤ (j : Int) := Int.natCast_nonneg _
        have hj12 : (j : Int) < 12 := by omega
        have hnj : NV P (foldTo (fun t x' => iter (byF (timesF P d) P.n (P.cj (i + 1 + t) i)) (x.getD (i + 1 + t) 0).toNat x') (j - (i + 1)) x2) :=
          foldTo_inv _ (fun t z _ hz => iter_inv (fun z hz => byF_NV hv d _ z hz) _ _ hz) _ HNL.out
        have hfs : foldTo (fun t x' => iter (byF (timesF P d) P.n (P.cj (i + 1 + t) i)) (x.getD (i + 1 + t) 0).toNat x') (j + 1 - (i + 1)) x2 =
            iter (byF (timesF P d) P.n (P.cj j i)) (x.getD j 0).toNat (foldTo (fun t x' => iter (byF (timesF P d) P.n (P.cj (i + 1 + t) i)) (x.getD (i + 1 + t) 0).toNat x') (j - (i + 1)) x2) := by
          rw [show j + 1 - (i + 1) = (j - (i + 1)) + 1 by omega, foldTo, show i + 1 + (j - (i + 1)) = j by omega]
        generalize hmj : x.getD j 0 = mj at *
        obtain ⟨mj', rfl⟩ := Int.eq_ofNat_of_zero_le hxj.1
        rw [Int.toNat_natCast] at hfs
        have hm1 : mj' ≤ 1000 := by omega
        have HF := Lib.hid hfs
        generalize foldTo (fun t x' => iter (byF (timesF P d) P.n (P.cj (i + 1 + t) i)) (x.getD (i + 1 + t) 0).toNat x') (j - (i + 1)) x2 = xj at *
        have HNJ := Lib.hid hnj
        have HCJ := Lib.hid hcj
        have HRJ := Lib.hid hrj
        clear hmj hfs hnj hcj hrj hxj hoj
        go_wp2_with fail
        obtain ⟨wo, rfl⟩ : ∃ wo, wo = wr := ⟨_, rfl⟩
        go_loopw [74] (fun s wr => ∃ q : Nat, q ≤ mj' ∧ s = .int .i64 q ∧ CollAt wr bc br (iter (byF (timesF P d) P.n (P.cj j i)) q xj) ∧ wo.grownBy wr (some bc)) (fun s _ => mj' - (intOf s).toNat)
        case atStart => exact ⟨0, Nat.zero_le _, rfl, HCJ.out, World.grownBy.refl _ _⟩
        case round =>
          obtain ⟨q, hq, rfl, hcq, hgq⟩ := hrel
          have hcpq := hcq.ptr
          have hrq := HRJ.out.grown hgq (by simp; omega)
          have hnq : NV P (iter (byF (timesF P d) P.n (P.cj j i)) q xj) := iter_inv (fun z hz => byF_NV hv d _ z hz) _ _ HNJ.out
          have HRQ := Lib.hid hrq
          have HCQ := Lib.hid hcq
          have HNQ := Lib.hid hnq
          clear hcpj hrnj hRj hrq hcq hnq
          by_cases hql : q < mj'
          · go_wp2_with (first
              | (refine wpList_load_mid rfl 82 (.tmp 86) rfl br _ rfl (vec (P.cj j i)) _ (HRQ.out.cj j (by omega) i (by omega)) Try.underlying82 rfl (by rw [length_vec]; exact info82) ?_)
              | (go_at_call 80; refine (HB'.out _ bc br _ (P.cj j i) HCQ.out HRQ.out hne HNQ.out (norm_pow hv (hv.cj j hlt i (by omega)) hd)).mono ?_; rintro e w5 ⟨rfl, hc5, hg5⟩))
            go_roundw
            case rel => exact ⟨q + 1, by omega, by go_num, hc5, only_trans hgq hg5⟩
            case measure => simp [intOf]; omega
          · have hqm : q = mj' := by omega
            subst hqm
            go_wp2_with fail
            go_roundw
            case rel => exact ⟨j + 1, by omega, by omega, by go_num, by (rw [HF.out]; exact HCQ.out), only_trans hgj hgq⟩
            case measure => simp [intOf]; omega
      · have hjn : j = P.n := by omega
        subst hjn
        go_wp2_with fail
        go_end0
        refine ⟨rfl, ?_, only_trans HGL.out hgj⟩
        show CollAt _ _ _ (foldTo _ _ (start P d i x))
        rw [HXg.out]
        exact hcj
  · have d1 : (m + 1 == o) = false := by simpa using hmo
    have HMO := Lib.hid hmo
    clear hmo
    have hnl : NV P (bump x i) := by
      refine ⟨by simp [length_bump, HL.out], fun k hk => ?_⟩
      have ho' := hv.ord2 k hk
      have hxk := HX.out.2 k hk
      rw [getD_bump x i k (by rw [HL.out]; exact hi)]
      split
      · rename_i e; subst e; rw [HO.out, HM.out]; have := HMO.out; omega
      · split <;> omega
    have HNL := Lib.hid hnl
    clear hnl
    go_wp2_with fail
    go_quiet (fail)
    obtain ⟨wl, hwl⟩ : ∃ wl, wl = w3.drewN nq := ⟨_, rfl⟩
    have HCL : Hid (CollAt wl bc br (bump x i)) := by rw [hwl]; exact HB3
    have HGL : Hid (w.grownBy wl (some bc)) := by rw [hwl]; exact only_drewN HG3.out _
    have HRL : Hid (wl.heap[w.heap.size]? = some (.cells (vec x).toArray 82 (0, 0))) := by rw [hwl]; exact HRb3
    have hxg := HXX.out.trans (if_neg HMO.out)
    rw [← hwl]
    generalize bump x i = x2 at *
    clear hwl hcp3 hri3 hrn3 hci3 hfz3
    have hgl : w.grownBy wl (some bc) := HGL.out
    have hrl := HR.out.grown hgl (by simp; omega)
    have HRl := Lib.hid hrl
    have hrnl := hrl.n
    have hcpl := HCL.out.ptr
    have HXg := Lib.hid hxg
    clear hgl hrl hxg
    go_wp2_with fail
    go_loopw [5] (fun s5 wr => ∃ j : Nat, i + 1 ≤ j ∧ j ≤ P.n ∧ s5 = .int .i64 j ∧ CollAt wr bc br (foldTo (fun t x' => iter (byF (timesF P d) P.n (P.cj (i + 1 + t) i)) (x.getD (i + 1 + t) 0).toNat x') (j - (i + 1)) x2) ∧ wl.grownBy wr (some bc)) (fun s5 _ => P.n - (intOf s5).toNat)
    case atStart => exact ⟨i + 1, Nat.le_refl _, by omega, by go_num, by simpa [foldTo] using HCL.out, World.grownBy.refl _ _⟩
    case round =>
      obtain ⟨j, hj1, hj2, rfl, hcj, hgj⟩ := hrel
      have hcpj := hcj.ptr
      have hrj := HRl.out.grown hgj (by simp; omega)
      have hrnj := hrj.n
      by_cases hlt : j < P.n
      · have hxj := HX.out.2 j hlt
        have hoj := hv.ord2 j hlt
        have hRj : wr.cell? ⟨w.heap.size, j, none⟩ = some (.int .i64 (x.getD j 0)) := by
          rw [World.cell?_of_block (w := wl) (hgj.block w.heap.size (Array.getElem?_eq_some_iff.1 HRL.out).1 (by simp; omega)), cell_of_row _ _ _ _ _ _ HRL.out]
          simpa using getElem?_vec x (k := j) (by omega)
        have hj0 : (0 : Int) ≤ (j : Int) := Int.natCast_nonneg _
        have hj12 : (j : Int) < 12 := by omega
        have hnj : NV P (foldTo (fun t x' => iter (byF (timesF P d) P.n (P.cj (i + 1 + t) i)) (x.getD (i + 1 + t) 0).toNat x') (j - (i + 1)) x2) :=
          foldTo_inv _ (fun t z _ hz => iter_inv (fun z hz => byF_NV hv d _ z hz) _ _ hz) _ HNL.out
        have hfs : foldTo (fun t x' => iter (byF (timesF P d) P.n (P.cj (i + 1 + t) i)) (x.getD (i + 1 + t) 0).toNat x') (j + 1 - (i + 1)) x2 =
            iter (byF (timesF P d) P.n (P.cj j i)) (x.getD j 0).toNat (foldTo (fun t x' => iter (byF (timesF P d) P.n (P.cj (i + 1 + t) i)) (x.getD (i + 1 + t) 0).toNat x') (j - (i + 1)) x2) := by
          rw [show j + 1 - (i + 1) = (j - (i + 1)) + 1 by omega, foldTo, show i + 1 + (j - (i + 1)) = j by omega]
        generalize hmj : x.getD j 0 = mj at *
        obtain ⟨mj', rfl⟩ := Int.eq_ofNat_of_zero_le hxj.1
        rw [Int.toNat_natCast] at hfs
        have hm1 : mj' ≤ 1000 := by omega
        have HF := Lib.hid hfs
        generalize foldTo (fun t x' => iter (byF (timesF P d) P.n (P.cj (i + 1 + t) i)) (x.getD (i + 1 + t) 0).toNat x') (j - (i + 1)) x2 = xj at *
        have HNJ := Lib.hid hnj
        have HCJ := Lib.hid hcj
        have HRJ := Lib.hid hrj
        clear hmj hfs hnj hcj hrj hxj hoj
        go_wp2_with fail
        obtain ⟨wo, rfl⟩ : ∃ wo, wo = wr := ⟨_, rfl⟩
        go_loopw [74] (fun s wr => ∃ q : Nat, q ≤ mj' ∧ s = .int .i64 q ∧ CollAt wr bc br (iter (byF (timesF P d) P.n (P.cj j i)) q xj) ∧ wo.grownBy wr (some bc)) (fun s _ => mj' - (intOf s).toNat)
        case atStart => exact ⟨0, Nat.zero_le _, rfl, HCJ.out, World.grownBy.refl _ _⟩
        case round =>
          obtain ⟨q, hq, rfl, hcq, hgq⟩ := hrel
          have hcpq := hcq.ptr
          have hrq := HRJ.out.grown hgq (by simp; omega)
          have hnq : NV P (iter (byF (timesF P d) P.n (P.cj j i)) q xj) := iter_inv (fun z hz => byF_NV hv d _ z hz) _ _ HNJ.out
          have HRQ := Lib.hid hrq
          have HCQ := Lib.hid hcq
          have HNQ := Lib.hid hnq
          clear hcpj hrnj hRj hrq hcq hnq
          by_cases hql : q < mj'
          · go_wp2_with (first
              | (refine wpList_load_mid rfl 82 (.tmp 86) rfl br _ rfl (vec (P.cj j i)) _ (HRQ.out.cj j (by omega) i (by omega)) Try.underlying82 rfl (by rw [length_vec]; exact info82) ?_)
              | (go_at_call 80; refine (HB'.out _ bc br _ (P.cj j i) HCQ.out HRQ.out hne HNQ.out (norm_pow hv (hv.cj j hlt i (by omega)) hd)).mono ?_; rintro e w5 ⟨rfl, hc5, hg5⟩))
            go_roundw
            case rel => exact ⟨q + 1, by omega, by go_num, hc5, only_trans hgq hg5⟩
            case measure => simp [intOf]; omega
          · have hqm : q = mj' := by omega
            subst hqm
            go_wp2_with fail
            go_roundw
            case rel => exact ⟨j + 1, by omega, by omega, by go_num, by (rw [HF.out]; exact HCQ.out), only_trans hgj hgq⟩
            case measure => simp [intOf]; omega
      · have hjn : j = P.n := by omega
        subst hjn
        go_wp2_with fail
        go_end0
        refine ⟨rfl, ?_, only_trans HGL.out hgj⟩
        show CollAt _ _ _ (foldTo _ _ (start P d i x))
        rw [HXg.out]
        exact hcj
end Go.Proofs
namespace Go.Proofs
open Go.RowKit Go.Proofs.Pc

theorem zinfo86 : (Try.prog.info? 86).map (fun i => (i.zero, i.size)) = some (some (.agg (Array.replicate 1885 (.int .i64 0))), 1885) := by kernel_rfl
theorem zero86 (w : World) : (zeroValue 86).run Try.prog w = .ok (.agg (Array.replicate 1885 (.int .i64 0))) w := (zero_of_info zinfo86).1 w
theorem sz3 (w : World) : (sizeOf 3).run Try.prog w = .ok 1 w := by kernel_rfl
theorem sz82 (w : World) : (sizeOf 82).run Try.prog w = .ok 12 w := by kernel_rfl
theorem sz83 (w : World) : (sizeOf 83).run Try.prog w = .ok 144 w := by kernel_rfl
theorem sz84 (w : World) : (sizeOf 84).run Try.prog w = .ok 1728 w := by kernel_rfl
theorem build86 (n : Int) (w : World) : (Instr.build 86 #[(0, .int .i64 n)]).run Try.prog w = .ok (.agg ((Array.replicate 1885 (.int .i64 0)).setIfInBounds 0 (.int .i64 n))) w := by
  unfold Instr.build
  rw [Sem.run_bind, zero86]
  simp only [Result.andThen_ok, Value.cells]
  rw [Sem.run_bind, run_underlying Try.underlying86]
  simp [Instr.fill, Value.cells]

/-- the zero rules with n -/
theorem zc86 : Try.zeroCells86 = Array.replicate 1885 (.int .i64 0) := by kernel_rfl

structure Rul (w : World) (br : Nat) (n : Int) (o : List Int) (dp : Nat → List Int) (dc : Nat → Nat → List Int) : Prop where
  blk : ∃ C : Array Value, w.heap[br]? = some (.cells C 86 (0, 0)) ∧ C.size = 1885
  n : w.cell? ⟨br, 0, none⟩ = some (.int .i64 n)
  ord : w.rangeAt br 1 (vec o)
  pow : ∀ i, i < 12 → w.rangeAt br (13 + i * 12) (vec (dp i))
  cj : ∀ j, j < 12 → ∀ i, i < 12 → w.rangeAt br (157 + j * 144 + i * 12) (vec (dc j i))

theorem Rul.there {w : World} {br : Nat} {n : Int} {o : List Int} {dp : Nat → List Int} {dc : Nat → Nat → List Int} (h : Rul w br n o dp dc) (k : Nat) (hk : k + 12 ≤ 1885) : w.there br k 12 := by
  obtain ⟨C, hC, hs⟩ := h.blk
  intro j hj
  refine ⟨?_, frozen_of_row w br _ _ _ hC⟩
  rw [cell_of_row w br _ _ _ _ hC]
  have : k + j < C.size := by omega
  simp [this]

theorem heap_setCells (b : Nat) (t : TypeId) (N : Nat) : ∀ (vs : List Value) (o : Nat) (w : World), (∃ C : Array Value, w.heap[b]? = some (.cells C t (0, 0)) ∧ C.size = N) → ∃ C : Array Value, (w.setCells b o vs).heap[b]? = some (.cells C t (0, 0)) ∧ C.size = N
  | [], _, _, h => h
  | v :: r, o, w, ⟨C, hC, hs⟩ => by
    rw [World.setCells]
    refine heap_setCells b t N r (o + 1) _ ⟨C.setIfInBounds o v, ?_, by simpa using hs⟩
    simp [World.setCell, Array.getElem?_modify, hC]

theorem rangeAt_fill {w : World} {b o : Nat} {xs : List Int} (h : w.rangeAt b o (vec [])) (hl : xs.length ≤ 12) : (w.setCells b o (ints xs)).rangeAt b o (vec xs) := by
  intro j v hv
  have hj : j < 12 := by have := (List.getElem?_eq_some_iff.1 hv).1; rwa [length_vec] at this
  rw [getElem?_vec _ hj] at hv
  injection hv with hv
  subst hv
  have hli : (ints xs).length = xs.length := by simp [ints]
  rcases Nat.lt_or_ge j xs.length with h1 | h1
  · rw [World.cell?_setCells_in b (ints xs) o w (fun i hi => by rw [h i _ (getElem?_vec _ (by omega))]; rfl) j (by omega)]
    simp [ints, List.getD_eq_getElem?_getD, List.getElem?_eq_getElem h1]
  · rw [World.cell?_setCells_out b (ints xs) o w ⟨b, o + j, none⟩ (fun _ _ => .inr (by show o + _ ≤ o + j; omega)), h j _ (getElem?_vec _ hj)]
    simp [List.getD_eq_getElem?_getD, List.getElem?_eq_none h1]

section
variable {w : World} {br : Nat} {n : Int} {o xs : List Int} {dp : Nat → List Int} {dc : Nat → Nat → List Int}

theorem len_ints (xs : List Int) : (ints xs).length = xs.length := by simp [ints]

theorem Rul.setOrd (h : Rul w br n [] dp dc) (hl : xs.length ≤ 12) : Rul (w.setCells br 1 (ints xs)) br n xs dp dc :=
  ⟨heap_setCells br 86 1885 _ _ _ h.blk, (World.cell?_setCells_out br _ 1 w ⟨br, 0, none⟩ (fun _ _ => .inl (by show 0 < 1; omega))).trans h.n, rangeAt_fill h.ord hl,
    fun i hi => World.rangeAt_setCells_apart (h.pow i hi) _ _ _ (by rw [len_ints, length_vec]; omega), fun j hj i hi => World.rangeAt_setCells_apart (h.cj j hj i hi) _ _ _ (by rw [len_ints, length_vec]; omega)⟩
theorem Rul.setPow {r : Nat} (h : Rul w br n o dp dc) (hr : r < 12) (h0 : dp r = []) (hl : xs.length ≤ 12) : Rul (w.setCells br (13 + r * 12) (ints xs)) br n o (fun i => if i = r then xs else dp i) dc :=
  ⟨heap_setCells br 86 1885 _ _ _ h.blk, (World.cell?_setCells_out br _ _ w ⟨br, 0, none⟩ (fun _ _ => .inl (by show 0 < _; omega))).trans h.n, World.rangeAt_setCells_apart h.ord _ _ _ (by rw [len_ints, length_vec]; omega),
    fun i hi => by
      by_cases e : i = r
      · subst e; rw [if_pos rfl]; exact rangeAt_fill (by rw [← h0]; exact h.pow i hi) hl
      · rw [if_neg e]; exact World.rangeAt_setCells_apart (h.pow i hi) _ _ _ (by rw [len_ints, length_vec]; omega),
    fun j hj i hi => World.rangeAt_setCells_apart (h.cj j hj i hi) _ _ _ (by rw [len_ints, length_vec]; omega)⟩
theorem Rul.setCj {r q : Nat} (h : Rul w br n o dp dc) (hr : r < 12) (hq : q < 12) (h0 : dc r q = []) (hl : xs.length ≤ 12) : Rul (w.setCells br (157 + r * 144 + q * 12) (ints xs)) br n o dp (fun j i => if j = r ∧ i = q then xs else dc j i) :=
  ⟨heap_setCells br 86 1885 _ _ _ h.blk, (World.cell?_setCells_out br _ _ w ⟨br, 0, none⟩ (fun _ _ => .inl (by show 0 < _; omega))).trans h.n, World.rangeAt_setCells_apart h.ord _ _ _ (by rw [len_ints, length_vec]; omega),
    fun i hi => World.rangeAt_setCells_apart (h.pow i hi) _ _ _ (by rw [len_ints, length_vec]; omega),
    fun j hj i hi => by
      by_cases e : j = r ∧ i = q
      · obtain ⟨rfl, rfl⟩ := e; simp only [and_self, if_true]; exact rangeAt_fill (by rw [← h0]; exact h.cj j hj i hi) hl
      · rw [if_neg e]; exact World.rangeAt_setCells_apart (h.cj j hj i hi) _ _ _ (by rw [len_ints, length_vec]; omega)⟩
theorem Rul.block {w' : World} (h : Rul w br n o dp dc) (hk : w'.heap[br]? = w.heap[br]?) : Rul w' br n o dp dc :=
  ⟨by rw [hk]; exact h.blk, (World.cell?_of_block (a := ⟨br, 0, none⟩) hk).trans h.n, rangeAt_keep h.ord hk, fun i hi => rangeAt_keep (h.pow i hi) hk, fun j hj i hi => rangeAt_keep (h.cj j hj i hi) hk⟩
theorem Rul.congr {dp' : Nat → List Int} {dc' : Nat → Nat → List Int} (h : Rul w br n o dp dc) (h1 : ∀ i, i < 12 → dp i = dp' i) (h2 : ∀ j i, j < 12 → i < 12 → dc j i = dc' j i) : Rul w br n o dp' dc' :=
  ⟨h.blk, h.n, h.ord, fun i hi => by rw [← h1 i hi]; exact h.pow i hi, fun j hj i hi => by rw [← h2 j i hj hi]; exact h.cj j hj i hi⟩
theorem Rul.new (w : World) (n : Int) : Rul (w.alloc (.cells (Try.zeroCells86.setIfInBounds 0 (.int .i64 n)) 86)) w.heap.size n [] (fun _ => []) (fun _ _ => []) := by
  have hb := heap_alloc_new w (.cells (Try.zeroCells86.setIfInBounds 0 (.int .i64 n)) 86)
  have hs : (Try.zeroCells86.setIfInBounds 0 (.int .i64 n)).size = 1885 := by simp [zc86]
  have hz : ∀ k, 0 < k → k + 12 ≤ 1885 → (w.alloc (.cells (Try.zeroCells86.setIfInBounds 0 (.int .i64 n)) 86)).rangeAt w.heap.size k (vec []) := fun k h0 hk j v hv => by
    have hj : j < 12 := by have := (List.getElem?_eq_some_iff.1 hv).1; rwa [length_vec] at this
    rw [getElem?_vec _ hj] at hv
    rw [cell_of_row _ _ _ _ _ _ hb, ← hv]
    have h1 : (0 : Nat) ≠ k + j := by omega
    have h2 : k + j < 1885 := by omega
    rw [zc86, Array.getElem?_setIfInBounds_ne h1, Array.getElem?_replicate, if_pos h2]
    rfl
  refine ⟨⟨Try.zeroCells86.setIfInBounds 0 (.int .i64 n), hb, hs⟩, ?_, hz 1 (by omega) (by omega), fun i hi => hz _ (by omega) (by omega), fun j hj i hi => hz _ (by omega) (by omega)⟩
  rw [cell_of_row _ _ _ _ _ _ hb]
  rw [zc86]
  simp
end

theorem setCells_drewN (b q : Nat) : ∀ (vs : List Value) (o : Nat) (w : World), (w.drewN q).setCells b o vs = (w.setCells b o vs).drewN q
  | [], _, _ => rfl
  | v :: r, o, w => by rw [World.setCells, World.setCells]; exact setCells_drewN b q r (o + 1) (w.setCell ⟨b, o, none⟩ v)
theorem setCells_drew (b : Nat) : ∀ (vs : List Value) (o : Nat) (w : World), w.drew.setCells b o vs = (w.setCells b o vs).drew
  | [], _, _ => rfl
  | v :: r, o, w => by rw [World.setCells, World.setCells]; exact setCells_drew b r (o + 1) (w.setCell ⟨b, o, none⟩ v)

/-- 'copy(arr[:], l)' -/
theorem copy12 {w : World} {b o : Nat} {vs : Value} {xs : List Int} (hs : IntsAt w vs xs) (hl : xs.length ≤ 12) (hth : w.there b o 12) (ty : TypeId) :
    (Builtin.copy_ #[22, 22] ty #[.slice (some ⟨b, o, none⟩) 12 12, vs]).run Try.prog w = .ok (.int .i64 xs.length) (w.setCells b o (ints xs)) := by
  have h3 : (Try.prog.info? 3).map (·.size) = some 1 := by kernel_rfl
  obtain ⟨A, cap, rfl, h1, h2, h4⟩ := hs.open_
  by_cases h0 : xs.length = 0
  · have : xs = [] := List.eq_nil_of_length_eq_zero h0
    subst this
    exact run_copy_none (P := Try.prog) w 22 22 ty 3 _ _ _ _ _ _ Try.underlying22 h3 (by show Nat.min 0 12 = 0; rfl)
  · obtain ⟨b', o', rfl, hc⟩ := h4 (by omega)
    have := run_copy_cells (P := Try.prog) w 22 22 ty 3 b o 12 12 ⟨b', o', none⟩ xs.length cap (ints xs) Try.underlying22 h3 (by rw [len_ints]; exact (Nat.min_eq_left hl).symm)
      (fun j v hv => by
        have hj : j < xs.length := by have := (List.getElem?_eq_some_iff.1 hv).1; rwa [len_ints] at this
        rw [Addr.add_mid, hc j hj, ← hv]
        simp [ints, List.getD_eq_getElem?_getD, List.getElem?_eq_getElem hj])
      (fun j hj => (hth j (by rw [len_ints] at hj; omega)).1) (fun j hj => (hth j (by rw [len_ints] at hj; omega)).2) (fun v hv => by simp [ints] at hv; obtain ⟨k, _, rfl⟩ := hv; rfl)
    rw [this, len_ints]
    rfl
end Go.Proofs
namespace Go.Proofs
open Go.RowKit Go.Proofs.Pc

theorem times_ok {P : PcD} (hv : Valid P) : ∀ d, TimesOk P d
  | 0 => fun w bc br x i _ _ _ _ hi hd => absurd hd (by omega)
  | d + 1 => times_of_by hv (by_of_times hv (times_ok hv d))
theorem by_ok {P : PcD} (hv : Valid P) (d : Nat) : ByOk P d := by_of_times hv (times_ok hv d)

theorem Pc.NV.small {P : PcD} (hv : Valid P) {y : List Int} (hy : NV P y) : ∀ k, k < P.n → 0 ≤ y.getD k 0 ∧ y.getD k 0 ≤ 1000 ∧ (0 < y.getD k 0 → P.n ≤ k + P.n) := fun k hk => by
  have h1 := hy.2 k hk
  have h2 := hv.ord2 k hk
  exact ⟨h1.1, by omega, fun _ => by omega⟩

theorem build113 (br : Nat) (x : List Int) (w : World) : (Instr.build 113 #[(0, .pointer (some ⟨br, 0, none⟩)), (1, .agg (vec x).toArray)]).run Try.prog w = .ok (.agg (Value.pointer (some ⟨br, 0, none⟩) :: vec x).toArray) w := by kernel_rfl
theorem bslice2 (x y : List Int) (w : World) : (Instr.buildSlice 125 2 #[(0, .agg (vec x).toArray), (1, .agg (vec y).toArray)]).run Try.prog w = .ok (.slice (some ⟨w.heap.size, 0, none⟩) 2 2) (w.alloc (.cells (vec x ++ vec y).toArray 82)) := by kernel_rfl
theorem bslice3 (x y z : List Int) (w : World) : (Instr.buildSlice 125 3 #[(0, .agg (vec x).toArray), (1, .agg (vec y).toArray), (2, .agg (vec z).toArray)]).run Try.prog w = .ok (.slice (some ⟨w.heap.size, 0, none⟩) 3 3) (w.alloc (.cells (vec x ++ vec y ++ vec z).toArray 82)) := by kernel_rfl

theorem wpList_store_row {P : Program} {ops : Array Oper} {rest : List Oper} {op : Oper} {a : Act} {w : World} {Q : Exit → Act → World → Prop} (hgd : op.guard = none) (ty : TypeId) (x y : Operand) (ho : op.op = .store ty x y)
    (g : Nat) (t : TypeId) (old c' : Array Value) (hx : a.eval x = .pointer (some ⟨g, 0, none⟩)) (hy : a.eval y = .agg c') (hg : w.heap[g]? = some (.cells old t (0, 0)))
    (hi : (P.info? ty).map (·.size) = some c'.size) (hoo : old.size = c'.size) (h1 : c'.all (·.oneCell') = true)
    (h : wpList P ops Q rest (a.put op.dst undef) (w.setRow g c')) : wpList P ops Q (op :: rest) a w :=
  wpList_plain hgd fun _ hK => by
    unfold Oper.wp execOp
    simp only [ho, hx, hy, Instr.storeAt, Instr.sureAddr, Sem.run_bind, Sem.run_pure, Result.andThen_ok, run_storeVar_row w g t ty old c' hg hi hoo h1]
    exact hK _ _ h

/-- the slice value sv holds the vectors xs -/
def VecsAt (w : World) (sv : Value) (xs : List (List Int)) : Prop := ∃ b cap, sv = .slice (some ⟨b, 0, none⟩) xs.length cap ∧ xs.length ≤ cap ∧ cap ≤ 9223372036854775807 ∧ ∀ i, i < xs.length → w.rangeAt b (i * 12) (vec (xs.getD i []))

theorem vecs2 (w : World) (x y : List Int) : VecsAt (w.alloc (.cells (vec x ++ vec y).toArray 82)) (.slice (some ⟨w.heap.size, 0, none⟩) 2 2) [x, y] := by
  refine ⟨w.heap.size, 2, rfl, by simp, by omega, fun i hi j v hv => ?_⟩
  have hj : j < 12 := by have := (List.getElem?_eq_some_iff.1 hv).1; rwa [length_vec] at this
  rw [cell_of_row _ _ _ _ _ _ (heap_alloc_new w _)]
  simp at hi
  have hi' : i = 0 ∨ i = 1 := by omega
  rcases hi' with rfl | rfl
  · simp [List.getElem?_append, length_vec, hj]
    first | (have h := (List.getElem?_eq_some_iff.1 hv).2; simpa using h) | (simpa using hv)
  · have : ¬ (12 + j < 12) := by omega
    simp [List.getElem?_append, length_vec, this]
    first | (have h := (List.getElem?_eq_some_iff.1 hv).2; simpa using h) | (simpa using hv)
theorem vecs3 (w : World) (x y z : List Int) : VecsAt (w.alloc (.cells (vec x ++ vec y ++ vec z).toArray 82)) (.slice (some ⟨w.heap.size, 0, none⟩) 3 3) [x, y, z] := by
  refine ⟨w.heap.size, 3, rfl, by simp, by omega, fun i hi j v hv => ?_⟩
  have hj : j < 12 := by have := (List.getElem?_eq_some_iff.1 hv).1; rwa [length_vec] at this
  rw [cell_of_row _ _ _ _ _ _ (heap_alloc_new w _)]
  simp at hi
  have hi' : i = 0 ∨ i = 1 ∨ i = 2 := by omega
  rcases hi' with rfl | rfl | rfl
  · have : j < 12 + 12 := by omega
    simp [List.getElem?_append, length_vec, hj]
    first | (have h := (List.getElem?_eq_some_iff.1 hv).2; simpa using h) | (simpa using hv)
  · have h1 : ¬ (12 + j < 12) := by omega
    have h2 : 12 + j < 12 + 12 := by omega
    simp [List.getElem?_append, length_vec, h1, hj]
    first | (have h := (List.getElem?_eq_some_iff.1 hv).2; simpa using h) | (simpa using hv)
  · have h1 : ¬ (24 + j < 12 + 12) := by omega
    have h2 : ¬ (24 + j < 12) := by omega
    have h3 : 24 + j - 12 - 12 = j := by omega
    have h4 : ¬ (24 + j - 12 < 12) := by omega
    simp [List.getElem?_append, length_vec, h2, h3, h4]
    first | (have h := (List.getElem?_eq_some_iff.1 hv).2; simpa using h) | (simpa using hv)

def foldP (P : PcD) (x : List Int) (ys : List (List Int)) (k : Nat) : List Int := foldTo (fun i a => mulP P a (ys.getD i [])) k x

end Go.Proofs
namespace Go.Proofs
open Go.RowKit Go.Proofs.Pc

def unitP (i : Nat) (x : Int) : List Int := ((List.range 12).map fun k => if k = i then x else 0)
theorem getD_unitP (i k : Nat) (x : Int) (hi : i < 12) : (unitP i x).getD k 0 = if k = i then x else 0 := by
  unfold unitP
  rcases Nat.lt_or_ge k 12 with hk | hk
  · simp [List.getD_eq_getElem?_getD, List.getElem?_range hk]
  · rw [List.getD_eq_getElem?_getD, List.getElem?_eq_none (by simpa using hk), if_neg (by omega)]
    rfl

theorem store_vec_same (w : World) (x y : List Int) : Sem.run Try.prog (storeCells ⟨w.heap.size, 0, none⟩ (vec x)) (w.alloc (.cells (vec y).toArray 82)) = .ok () (w.alloc (.cells (vec x).toArray 82)) :=
  run_storeCells_new (P := Try.prog) w 82 _ (vec x).toArray (by rw [size_vec]; exact info82) (by rw [size_vec, size_vec]) (oneCell_vec x)
theorem range_new (w : World) (x : List Int) : (w.alloc (.cells (vec x).toArray 82)).rangeAt w.heap.size 0 (vec x) := fun j v hv => by
  rw [cell_of_row _ _ _ _ _ _ (heap_alloc_new w _)]
  simpa using hv

set_option maxRecDepth 100000 in
theorem unit_any (w : World) (i : Nat) (x : Int) (hi : i < 12) :
    Calls Try.prog 81 #[.int .i64 i, .int .i64 x] w fun e w' => e = .returned (.agg (vec (unitP i x)).toArray) ∧ Below w.heap.size w w' := by
  have hi0 : (0 : Int) ≤ (i : Int) := Int.natCast_nonneg _
  have hi1 : (i : Int) < 12 := by omega
  have hz : [Value.int .i64 0, Value.int .i64 0, Value.int .i64 0, Value.int .i64 0, Value.int .i64 0, Value.int .i64 0, Value.int .i64 0, Value.int .i64 0, Value.int .i64 0, Value.int .i64 0, Value.int .i64 0, Value.int .i64 0].set i (.int .i64 x) = vec (unitP i x) := by
    apply List.ext_getElem?
    intro k
    rw [List.getElem?_set]
    rcases Nat.lt_or_ge k 12 with hk | hk
    · rw [getElem?_vec _ hk, getD_unitP _ _ _ hi]
      by_cases e : i = k
      · subst e; simp [hi]
      · rw [if_neg e, if_neg (Ne.symm e)]
        exact getElem?_vec [] hk
    · have : i ≠ k := by omega
      rw [if_neg this, List.getElem?_eq_none (by simpa using hk), List.getElem?_eq_none (by rw [length_vec]; exact hk)]
  have hst := store_vec_same
  go_enter Try.func81, Try.ntmps81
  go_wp2_with (first | (refine wpList_load_mid rfl 82 (.tmp 4) rfl w.heap.size 0 rfl (vec (unitP i x)) _ (range_new _ _) Try.underlying82 rfl (by rw [length_vec]; exact info82) ?_))
  refine bodyPost_ret (results_cell_row (P := Try.prog) rfl _ _ w.heap.size 82 (vec (unitP i x)).toArray (0, 0) _ rfl (heap_alloc_new w _) Try.underlying82 rfl (by rw [size_vec]; exact info82)) rfl ⟨rfl, (Below.refl _ _).alloc (Nat.le_refl _) _⟩

section
variable {ops : Array Oper} {rest : List Oper} {op : Oper} {a : Act} {w : World} {Q : Exit → Act → World → Prop}
theorem wpList_build113 (hgd : op.guard = none) (x y : Operand) (ho : op.op = .build 113 #[(0, x), (1, y)]) (br : Nat) (xs : List Int) (hx : a.eval x = .pointer (some ⟨br, 0, none⟩)) (hy : a.eval y = .agg (vec xs).toArray)
    (h : wpList Try.prog ops Q rest (a.put op.dst (.agg (Value.pointer (some ⟨br, 0, none⟩) :: vec xs).toArray)) w) : wpList Try.prog ops Q (op :: rest) a w :=
  wpList_plain hgd fun _ hK => by
    have hb := build113 br xs w
    unfold Oper.wp execOp
    simp only [ho, List.map_toArray, List.map_cons, List.map_nil, hx, hy, Sem.run_bind, hb, Result.andThen_ok, Sem.run_pure]
    exact hK _ _ h
theorem wpList_bslice2 (hgd : op.guard = none) (x y : Operand) (ho : op.op = .buildSlice 125 2 #[(0, x), (1, y)]) (xs ys : List Int) (hx : a.eval x = .agg (vec xs).toArray) (hy : a.eval y = .agg (vec ys).toArray)
    (h : wpList Try.prog ops Q rest (a.put op.dst (.slice (some ⟨w.heap.size, 0, none⟩) 2 2)) (w.alloc (.cells (vec xs ++ vec ys).toArray 82))) : wpList Try.prog ops Q (op :: rest) a w :=
  wpList_plain hgd fun _ hK => by
    have hb := bslice2 xs ys w
    unfold Oper.wp execOp
    simp only [ho, List.map_toArray, List.map_cons, List.map_nil, hx, hy, Sem.run_bind, hb, Result.andThen_ok, Sem.run_pure]
    exact hK _ _ h
end

end Go.Proofs
namespace Go.Proofs
open Go.RowKit Go.Proofs.Pc

set_option maxRecDepth 100000 in
set_option maxHeartbeats 400000 in
theorem mul_any {P : PcD} (hv : Valid P) (w : World) (br : Nat) (sv : Value) (x : List Int) (ys : List (List Int)) (hr : RulesAt w br P) (hs : VecsAt w sv (x :: ys)) (hx : NV P x) (hy : ∀ i, i < ys.length → NV P (ys.getD i [])) (hpos : 0 < ys.length) :
    Calls Try.prog 71 #[.pointer (some ⟨br, 0, none⟩), sv] w fun e w' => e = .returned (.agg (vec (foldP P x ys ys.length)).toArray) ∧ Below w.heap.size w w' := by
  obtain ⟨b, cap, rfl, hc1, hc2, hvs⟩ := hs
  have hbl := hr.lt
  have hx0 : w.rangeAt b 0 (vec x) := hvs 0 (by simp)
  have hc1' : ys.length + 1 ≤ cap := hc1
  have HVS := Lib.hid hvs
  have HR := Lib.hid hr
  have HX0 := Lib.hid hx0
  have HX := Lib.hid hx
  have HY := Lib.hid hy
  have hbld := build113
  have hst := @store_vec_new
  have hcap : cap ≠ 1 := by omega
  clear hr hvs hx0 hc1 hx hy
  go_enter Try.func71, Try.ntmps71
  go_wp2_with (first | (refine wpList_build113 rfl (.tmp 8) (.tmp 11) rfl br x rfl rfl ?_) | (refine wpList_load_mid rfl 82 (.tmp 10) rfl b 0 rfl (vec x) _ (World.rangeAt_alloc HX0.out _) Try.underlying82 rfl (by rw [length_vec]; exact info82) ?_))
  have hW1 : CollAt ((w.alloc (.cells #[.int .i64 0, .int .i64 0, .int .i64 0, .int .i64 0, .int .i64 0, .int .i64 0, .int .i64 0, .int .i64 0, .int .i64 0, .int .i64 0, .int .i64 0, .int .i64 0] 82)).alloc (.cells (Value.pointer (some ⟨br, 0, none⟩) :: vec x).toArray 113)) (w.heap.size + 1) br x := by
    have := heap_alloc_new (w.alloc (.cells #[.int .i64 0, .int .i64 0, .int .i64 0, .int .i64 0, .int .i64 0, .int .i64 0, .int .i64 0, .int .i64 0, .int .i64 0, .int .i64 0, .int .i64 0, .int .i64 0] 82)) (.cells (Value.pointer (some ⟨br, 0, none⟩) :: vec x).toArray 113)
    simpa [CollAt] using this
  have hB1 : Below w.heap.size w ((w.alloc (.cells #[.int .i64 0, .int .i64 0, .int .i64 0, .int .i64 0, .int .i64 0, .int .i64 0, .int .i64 0, .int .i64 0, .int .i64 0, .int .i64 0, .int .i64 0, .int .i64 0] 82)).alloc (.cells (Value.pointer (some ⟨br, 0, none⟩) :: vec x).toArray 113)) := ((Below.refl _ w).alloc (Nat.le_refl _) _).alloc (by simp) _
  have hR1 : ((w.alloc (.cells #[.int .i64 0, .int .i64 0, .int .i64 0, .int .i64 0, .int .i64 0, .int .i64 0, .int .i64 0, .int .i64 0, .int .i64 0, .int .i64 0, .int .i64 0, .int .i64 0] 82)).alloc (.cells (Value.pointer (some ⟨br, 0, none⟩) :: vec x).toArray 113)).heap[w.heap.size]? = some (.cells #[.int .i64 0, .int .i64 0, .int .i64 0, .int .i64 0, .int .i64 0, .int .i64 0, .int .i64 0, .int .i64 0, .int .i64 0, .int .i64 0, .int .i64 0, .int .i64 0] 82 (0, 0)) :=
    (Below.heap_alloc _ _ _ (by simp)).trans (heap_alloc_new w _)
  have hS1 : ((w.alloc (.cells #[.int .i64 0, .int .i64 0, .int .i64 0, .int .i64 0, .int .i64 0, .int .i64 0, .int .i64 0, .int .i64 0, .int .i64 0, .int .i64 0, .int .i64 0, .int .i64 0] 82)).alloc (.cells (Value.pointer (some ⟨br, 0, none⟩) :: vec x).toArray 113)).heap.size = w.heap.size + 2 := by simp
  generalize (w.alloc (.cells #[.int .i64 0, .int .i64 0, .int .i64 0, .int .i64 0, .int .i64 0, .int .i64 0, .int .i64 0, .int .i64 0, .int .i64 0, .int .i64 0, .int .i64 0, .int .i64 0] 82)).alloc (.cells (Value.pointer (some ⟨br, 0, none⟩) :: vec x).toArray 113) = w1 at *
  have HW1 := Lib.hid hW1
  have HB1 := Lib.hid hB1
  have HR1 := Lib.hid hR1
  have HS1 := Lib.hid hS1
  clear hW1 hB1 hR1 hS1
  go_loopw [7, 17] (fun _ i wr => ∃ k : Nat, k ≤ ys.length ∧ i = .int .i64 k ∧ CollAt wr (w.heap.size + 1) br (foldP P x ys k) ∧ w1.grownBy wr (some (w.heap.size + 1))) (fun _ i _ => ys.length - (intOf i).toNat)
  case atStart => exact ⟨0, Nat.zero_le _, rfl, HW1.out, World.grownBy.refl _ _⟩
  case round =>
    obtain ⟨k, hk, rfl, hC, hG⟩ := hrel
    have hbw : Below w.heap.size w wr := HB1.out.grown hG HB1.out.size (fun k e => by cases e; omega)
    have HC := Lib.hid hC
    have HG := Lib.hid hG
    have HBw := Lib.hid hbw
    have hnk : NV P (foldP P x ys k) := foldTo_inv k (fun i z hi hz => mulP_NV hv hz) x HX.out
    have HNK := Lib.hid hnk
    have hwsz : w.heap.size + 1 < wr.heap.size := by have := hG.size; rw [HS1.out] at this; omega
    clear hC hG hbw hnk
    by_cases hlt : k < ys.length
    · have hyr : wr.rangeAt b (12 + k * 12) (vec (ys.getD k [])) := by
        have h1 := HVS.out (k + 1) (by simp; omega)
        rw [show 12 + k * 12 = (k + 1) * 12 by omega]
        have hb : b < w.heap.size := World.block_lt_of_cell? w _ (h1 0 _ (getElem?_vec _ (by omega)))
        exact rangeAt_keep h1 (HBw.out.block b hb)
      have HYR := Lib.hid hyr
      have hyn := HY.out k hlt
      have HYN := Lib.hid hyn
      clear hyr hyn
      have hcr : CollAt (wr.alloc (.cells (vec (ys.getD k [])).toArray 82)) (w.heap.size + 1) br (foldP P x ys k) := HC.out.below ((Below.refl _ _).alloc (Nat.le_refl _) _)
      have hrr : RulesAt (wr.alloc (.cells (vec (ys.getD k [])).toArray 82)) br P := HR.out.below (HBw.out.alloc HBw.out.size _)
      have HCR := Lib.hid hcr
      have HRR := Lib.hid hrr
      clear hcr hrr
      have hfs : foldP P x ys (k + 1) = mulP P (foldP P x ys k) (ys.getD k []) := rfl
      have HFS := Lib.hid hfs
      clear hfs
      generalize foldP P x ys k = xk at *
      generalize ys.getD k [] = yk at *
      go_wp2_with (first
        | (refine wpList_load_mid rfl 82 (.tmp 19) rfl b _ rfl (vec yk) _ HYR.out Try.underlying82 rfl (by rw [length_vec]; exact info82) ?_)
        | (refine wpList_load_mid rfl 82 (.tmp 7) rfl wr.heap.size 0 rfl (vec yk) _ (range_new _ _) Try.underlying82 rfl (by rw [length_vec]; exact info82) ?_)
        | (go_at_call 80; refine (by_ok hv P.n _ (w.heap.size + 1) br xk yk HCR.out HRR.out (by omega) HNK.out (NV.small hv HYN.out)).mono ?_; rintro e w5 ⟨rfl, hc5, hg5⟩))
      go_roundw
      case rel => exact ⟨k + 1, by omega, by go_num, by (rw [HFS.out]; exact hc5), only_trans (only_trans HG.out (World.grownBy_alloc _ _ _)) hg5⟩
      case measure => simp [intOf]; omega
    · have hkn : k = ys.length := by omega
      subst hkn
      have hres : wr.heap[w.heap.size]? = some (.cells #[.int .i64 0, .int .i64 0, .int .i64 0, .int .i64 0, .int .i64 0, .int .i64 0, .int .i64 0, .int .i64 0, .int .i64 0, .int .i64 0, .int .i64 0, .int .i64 0] 82 (0, 0)) := (HG.out.block w.heap.size (by rw [HS1.out]; omega) (by simp)).trans HR1.out
      have HRes := Lib.hid hres
      clear hres
      go_wp2_with (first
        | (refine wpList_load_mid rfl 82 (.tmp 27) rfl (w.heap.size + 1) 1 rfl (vec (foldP P x ys ys.length)) _ HC.out.range Try.underlying82 rfl (by rw [length_vec]; exact info82) ?_)
        | (refine wpList_store_row rfl 82 (.tmp 4) (.tmp 28) rfl w.heap.size 82 _ (vec (foldP P x ys ys.length)).toArray rfl rfl HRes.out (by rw [size_vec]; exact info82) (by rw [size_vec]; rfl) (oneCell_vec _) ?_))
      refine bodyPost_ret (results_cell_row (P := Try.prog) rfl _ _ w.heap.size 82 (vec (foldP P x ys ys.length)).toArray (0, 0) _ rfl (setRow_heap _ _ _ _ _ _ HRes.out) Try.underlying82 rfl (by rw [size_vec]; exact info82)) rfl ⟨rfl, below_setRow HBw.out (Nat.le_refl _) _⟩
end Go.Proofs
