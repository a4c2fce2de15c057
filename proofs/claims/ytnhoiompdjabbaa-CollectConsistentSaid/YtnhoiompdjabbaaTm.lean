import Derived.Test.YtnhoiompdjabbaaT3
import Derived.BigRegion
import Derived.ChangeAlike
namespace Go.Proofs
open Go.RowKit Go.Proofs.Pc

def start (P : PcD) (d i : Nat) (x : List Int) : List Int := if x.getD i 0 + 1 = P.ord i then byF (timesF P d) P.n (P.pow i) ((bump x i).set i 0) else bump x i
theorem rules_step {w : World} {bc br : Nat} {P : PcD} (h : RulesAt w br P) (hne : bc ≠ br) (n k : Nat) (v : Value) : RulesAt ((w.drewN n).setCell ⟨bc, k, none⟩ v) br P :=
  h.grown (only_setCell (only_drewN (World.grownBy.refl w _) n) (.inl rfl) v) (by simp; omega)
theorem norm_pow {P : PcD} (hv : Valid P) {y : List Int} {i d : Nat} (hy : Norm P y (i + 1)) (hd : P.n ≤ i + (d + 1)) : ∀ k, k < P.n → 0 ≤ y.getD k 0 ∧ y.getD k 0 ≤ 1000 ∧ (0 < y.getD k 0 → P.n ≤ k + d) := by
  intro k hk
  have h1 := hy.2 k hk
  have h2 := hv.ord2 k hk
  refine ⟨by omega, by omega, fun h => ?_⟩
  rcases Nat.lt_or_ge k (i + 1) with h3 | h3
  · have := h1.2.2 h3; omega
  · omega

set_option maxRecDepth 100000 in
set_option maxHeartbeats 400000 in
theorem times_of_by {P : PcD} (hv : Valid P) {d : Nat} (HB : ByOk P d) : TimesOk P (d + 1) := by
  intro w bc br x i hc hr hne hx hi hd
  have hn12 := hv.n12
  have HB' := Lib.hid HB
  clear HB
  have hcp := hc.ptr
  have hrn := hr.n
  have hbc := hc.lt
  have hbr := hr.lt
  have hlen := hx.1
  have hxi := hx.2 i hi
  have hoi := hv.ord2 i hi
  have hri := hr.ordc (i := i) (by omega)
  have hst := @store_vec_new
  obtain ⟨sv, w2, hsl, hcl, hc2, hg2⟩ := slice_clear (w := w.alloc (.cells (vec x).toArray 82)) (i := i) (hc.below ((Below.refl _ _).alloc (Nat.le_refl _) _)) (by omega)
  have hg2' : w.grownBy w2 (some bc) := only_trans (World.grownBy_alloc w _ _) hg2
  have hr2 := hr.grown hg2' (by simp; omega)
  have hR2 : w2.heap[w.heap.size]? = some (.cells (vec x).toArray 82 (0, 0)) := (hg2.block w.heap.size (by simp) (by simp; omega)).trans (heap_alloc_new w _)
  have hci2 := hc2.cell (k := i) (by omega)
  have hcp2 := hc2.ptr
  have hfz2 := hc2.frozen (1 + i)
  have hri2 := hr2.ordc (i := i) (by omega)
  rw [getD_cleared, if_pos (Nat.le_refl i)] at hci2
  have hi0 : (0 : Int) ≤ (i : Int) := Int.natCast_nonneg _
  have hi1 : (i : Int) < 12 := by omega
  have hbump : CollAt (w2.setCell ⟨bc, 1 + i, none⟩ (.int .i64 (x.getD i 0 + 1))).drew bc br (bump x i) :=
    hc2.setv (by omega) fun k hk => by
      rw [getD_bump x i k (by omega), getD_cleared]
      by_cases e : k = i
      · simp [e]
      · simp only [e, if_false]
        by_cases h : k < i
        · rw [if_pos h, if_pos (by omega)]
        · rw [if_neg h, if_neg (by omega)]
  have hr3 : RulesAt (w2.setCell ⟨bc, 1 + i, none⟩ (.int .i64 (x.getD i 0 + 1))).drew br P := hr2.grown (only_drew (only_setCell (World.grownBy.refl w2 _) (.inl rfl) _)) (by simp; omega)
  have hg3 : w.grownBy (w2.setCell ⟨bc, 1 + i, none⟩ (.int .i64 (x.getD i 0 + 1))).drew (some bc) := only_drew (only_setCell hg2' (.inl rfl) _)
  have hR3 : (w2.setCell ⟨bc, 1 + i, none⟩ (.int .i64 (x.getD i 0 + 1))).drew.heap[w.heap.size]? = some (.cells (vec x).toArray 82 (0, 0)) := (Below.heap_setCell w2 ⟨bc, 1 + i, none⟩ _ w.heap.size (by simp; omega)).trans hR2
  generalize hm : x.getD i 0 = m at *
  generalize ho : P.ord i = o at *
  have HM := Lib.hid hm
  have HO := Lib.hid ho
  have HC := Lib.hid hc
  have HB3 := Lib.hid hbump
  have HR3 := Lib.hid hr3
  have HG3 := Lib.hid hg3
  have HRb3 := Lib.hid hR3
  clear hm ho hbump hr3 hg3 hR3
  have HR := Lib.hid hr
  have HX := Lib.hid hx
  have HC2 := Lib.hid hc2
  have HR2 := Lib.hid hr2
  have HG2 := Lib.hid hg2'
  have HRb := Lib.hid hR2
  have HL := Lib.hid hlen
  clear hc hr hx hc2 hr2 hg2' hg2 hR2 hlen
  go_enter Try.func79, Try.ntmps79
  go_wp2_with (first | (refine wpList_load_mid rfl 82 (.tmp 8) rfl bc 1 rfl (vec x) _ HC.out.range Try.underlying82 rfl (by rw [length_vec]; exact info82) ?_))
  go_region
  generalize (w2.setCell ⟨bc, 1 + i, none⟩ (.int .i64 (m + 1))).drew = w3 at *
  have hcp3 := HB3.out.ptr
  have hri3 := HR3.out.ordc (i := i) (by omega)
  have hrn3 := HR3.out.n
  have hfz3 := HB3.out.frozen (1 + i)
  have hci3 := HB3.out.cell (k := i) (by omega)
  rw [getD_bump x i i (by rw [HL.out]; exact hi), if_pos rfl, HM.out] at hci3
  rw [HO.out] at hri3
  clear hcp hrn hcp2 hfz2 hri2 hci2 hri hsl hcl
  have hxx : start P d i x = (if m + 1 = o then byF (timesF P d) P.n (P.pow i) ((bump x i).set i 0) else bump x i) := by unfold start; rw [HM.out, HO.out]
  have HXX := Lib.hid hxx
  clear hxx
  have hlb : i < (bump x i).length := by rw [length_bump, HL.out]; exact hi
  by_cases hmo : m + 1 = o
  · have d1 : (m + 1 == o) = true := by simpa using hmo
    have HMO := Lib.hid hmo
    have hnb : NV P ((bump x i).set i 0) := by
      refine ⟨by simp [length_bump, HL.out], fun k hk => ?_⟩
      have ho' := hv.ord2 k hk
      have hxk := HX.out.2 k hk
      rw [getD_set, getD_bump x i k (by rw [HL.out]; exact hi)]
      by_cases hik : i = k
      · subst hik; simp [length_bump, HL.out, hi]; omega
      · simp only [hik, false_and, if_false, Ne.symm hik]
        split <;> omega
    have HNB := Lib.hid hnb
    clear hmo hnb
    go_wp2_with fail
    go_quiet (fail)
    go_wp2_with (first
      | (refine wpList_load_mid rfl 82 (.tmp 55) rfl br _ rfl (vec (P.pow i)) _ ((rules_step HR3.out hne _ _ _).pow i (by omega)) Try.underlying82 rfl (by rw [length_vec]; exact info82) ?_)
      | (go_at_call 80; refine (HB'.out _ bc br ((bump x i).set i 0) (P.pow i) (CollAt.set (w := w3.drewN _) HB3.out hlb 0) (rules_step HR3.out hne _ _ _) hne HNB.out (norm_pow hv (hv.pow i hi) hd)).mono ?_; rintro e w4 ⟨rfl, hcl, hg4⟩))
    have hgl : w.grownBy w4 (some bc) := only_trans (only_setCell (only_drewN HG3.out _) (.inl rfl) _) hg4
    have hRl : w4.heap[w.heap.size]? = some (.cells (vec x).toArray 82 (0, 0)) := (hg4.block w.heap.size (by have := HG3.out.size; have := (Array.getElem?_eq_some_iff.1 HRb3.out).1; simpa [World.setCell] using this) (by simp; omega)).trans ((Below.heap_setCell _ ⟨bc, 1 + i, none⟩ _ w.heap.size (by simp; omega)).trans HRb3.out)
    have hxg := HXX.out.trans (if_pos HMO.out)
    have HGL := Lib.hid hgl
    have HRL := Lib.hid hRl
    have HCL := Lib.hid hcl
    have hnl : NV P (byF (timesF P d) P.n (P.pow i) ((bump x i).set i 0)) := byF_NV hv d _ _ HNB.out
    have HNL := Lib.hid hnl
    generalize byF (timesF P d) P.n (P.pow i) ((bump x i).set i 0) = x2 at *
    generalize hwl : w4 = wl at *
    clear hwl hgl hRl hcl hnl hg4 hcp3 hri3 hrn3 hci3 hfz3
    have hgl : w.grownBy wl (some bc) := HGL.out
    have hrl := HR.out.grown hgl (by simp; omega)
    have HRl := Lib.hid hrl
    have hrnl := hrl.n
    have hcpl := HCL.out.ptr
    have HXg := Lib.hid hxg
    clear hgl hrl hxg
    go_wp2_with fail
    go_loopw [5] (fun s5 wr => ∃ j : Nat, i + 1 ≤ j ∧ j ≤ P.n ∧ s5 = .int .i64 j ∧ CollAt wr bc br (foldTo (fun t x' => iter (byF (timesF P d) P.n (P.cj (i + 1 + t) i)) (x.getD (i + 1 + t) 0).toNat x') (j - (i + 1)) x2) ∧ wl.grownBy wr (some bc)) (fun s5 _ => P.n - (intOf s5).toNat)
    case atStart => exact ⟨i + 1, Nat.le_refl _, by omega, by go_num, by simpa [foldTo] using HCL.out, World.grownBy.refl _ _⟩
    case round =>
      obtain ⟨j, hj1, hj2, rfl, hcj, hgj⟩ := hrel
      have hcpj := hcj.ptr
      have hrj := HRl.out.grown hgj (by simp; omega)
      have hrnj := hrj.n
      by_cases hlt : j < P.n
      · have hxj := HX.out.2 j hlt
        have hoj := hv.ord2 j hlt
        have hRj : wr.cell? ⟨w.heap.size, j, none⟩ = some (.int .i64 (x.getD j 0)) := by
          rw [World.cell?_of_block (w := wl) (hgj.block w.heap.size (Array.getElem?_eq_some_iff.1 HRL.out).1 (by simp; omega)), cell_of_row _ _ _ _ _ _ HRL.out]
          simpa using getElem?_vec x (k := j) (by omega)
        have hj0 : (0 : Int) ≤ (j : Int) := Int.natCast_nonneg _
        have hj12 : (j : Int) < 12 := by omega
        have hnj : NV P (foldTo (fun t x' => iter (byF (timesF P d) P.n (P.cj (i + 1 + t) i)) (x.getD (i + 1 + t) 0).toNat x') (j - (i + 1)) x2) :=
          foldTo_inv _ (fun t z _ hz => iter_inv (fun z hz => byF_NV hv d _ z hz) _ _ hz) _ HNL.out
        have hfs : foldTo (fun t x' => iter (byF (timesF P d) P.n (P.cj (i + 1 + t) i)) (x.getD (i + 1 + t) 0).toNat x') (j + 1 - (i + 1)) x2 =
            iter (byF (timesF P d) P.n (P.cj j i)) (x.getD j 0).toNat (foldTo (fun t x' => iter (byF (timesF P d) P.n (P.cj (i + 1 + t) i)) (x.getD (i + 1 + t) 0).toNat x') (j - (i + 1)) x2) := by
          rw [show j + 1 - (i + 1) = (j - (i + 1)) + 1 by omega, foldTo, show i + 1 + (j - (i + 1)) = j by omega]
        generalize hmj : x.getD j 0 = mj at *
        obtain ⟨mj', rfl⟩ := Int.eq_ofNat_of_zero_le hxj.1
        rw [Int.toNat_natCast] at hfs
        have hm1 : mj' ≤ 1000 := by omega
        have HF := Lib.hid hfs
        generalize foldTo (fun t x' => iter (byF (timesF P d) P.n (P.cj (i + 1 + t) i)) (x.getD (i + 1 + t) 0).toNat x') (j - (i + 1)) x2 = xj at *
        have HNJ := Lib.hid hnj
        have HCJ := Lib.hid hcj
        have HRJ := Lib.hid hrj
        clear hmj hfs hnj hcj hrj hxj hoj
        go_wp2_with fail
        obtain ⟨wo, rfl⟩ : ∃ wo, wo = wr := ⟨_, rfl⟩
        go_loopw [74] (fun s wr => ∃ q : Nat, q ≤ mj' ∧ s = .int .i64 q ∧ CollAt wr bc br (iter (byF (timesF P d) P.n (P.cj j i)) q xj) ∧ wo.grownBy wr (some bc)) (fun s _ => mj' - (intOf s).toNat)
        case atStart => exact ⟨0, Nat.zero_le _, rfl, HCJ.out, World.grownBy.refl _ _⟩
        case round =>
          obtain ⟨q, hq, rfl, hcq, hgq⟩ := hrel
          have hcpq := hcq.ptr
          have hrq := HRJ.out.grown hgq (by simp; omega)
          have hnq : NV P (iter (byF (timesF P d) P.n (P.cj j i)) q xj) := iter_inv (fun z hz => byF_NV hv d _ z hz) _ _ HNJ.out
          have HRQ := Lib.hid hrq
          have HCQ := Lib.hid hcq
          have HNQ := Lib.hid hnq
          clear hcpj hrnj hRj hrq hcq hnq
          by_cases hql : q < mj'
          · go_wp2_with (first
              | (refine wpList_load_mid rfl 82 (.tmp 86) rfl br _ rfl (vec (P.cj j i)) _ (HRQ.out.cj j (by omega) i (by omega)) Try.underlying82 rfl (by rw [length_vec]; exact info82) ?_)
              | (go_at_call 80; refine (HB'.out _ bc br _ (P.cj j i) HCQ.out HRQ.out hne HNQ.out (norm_pow hv (hv.cj j hlt i (by omega)) hd)).mono ?_; rintro e w5 ⟨rfl, hc5, hg5⟩))
            go_roundw
            case rel => exact ⟨q + 1, by omega, by go_num, hc5, only_trans hgq hg5⟩
            case measure => simp [intOf]; omega
          · have hqm : q = mj' := by omega
            subst hqm
            go_wp2_with fail
            go_roundw
            case rel => exact ⟨j + 1, by omega, by omega, by go_num, by (rw [HF.out]; exact HCQ.out), only_trans hgj hgq⟩
            case measure => simp [intOf]; omega
      · have hjn : j = P.n := by omega
        subst hjn
        go_wp2_with fail
        go_end0
        refine ⟨rfl, ?_, only_trans HGL.out hgj⟩
        show CollAt _ _ _ (foldTo _ _ (start P d i x))
        rw [HXg.out]
        exact hcj
  · have d1 : (m + 1 == o) = false := by simpa using hmo
    have HMO := Lib.hid hmo
    clear hmo
    have hnl : NV P (bump x i) := by
      refine ⟨by simp [length_bump, HL.out], fun k hk => ?_⟩
      have ho' := hv.ord2 k hk
      have hxk := HX.out.2 k hk
      rw [getD_bump x i k (by rw [HL.out]; exact hi)]
      split
      · rename_i e; subst e; rw [HO.out, HM.out]; have := HMO.out; omega
      · split <;> omega
    have HNL := Lib.hid hnl
    clear hnl
    go_wp2_with fail
    go_quiet (fail)
    obtain ⟨wl, hwl⟩ : ∃ wl, wl = w3.drewN nq := ⟨_, rfl⟩
    have HCL : Hid (CollAt wl bc br (bump x i)) := by rw [hwl]; exact HB3
    have HGL : Hid (w.grownBy wl (some bc)) := by rw [hwl]; exact only_drewN HG3.out _
    have HRL : Hid (wl.heap[w.heap.size]? = some (.cells (vec x).toArray 82 (0, 0))) := by rw [hwl]; exact HRb3
    have hxg := HXX.out.trans (if_neg HMO.out)
    rw [← hwl]
    generalize bump x i = x2 at *
    clear hwl hcp3 hri3 hrn3 hci3 hfz3
    have hgl : w.grownBy wl (some bc) := HGL.out
    have hrl := HR.out.grown hgl (by simp; omega)
    have HRl := Lib.hid hrl
    have hrnl := hrl.n
    have hcpl := HCL.out.ptr
    have HXg := Lib.hid hxg
    clear hgl hrl hxg
    go_wp2_with fail
    go_loopw [5] (fun s5 wr => ∃ j : Nat, i + 1 ≤ j ∧ j ≤ P.n ∧ s5 = .int .i64 j ∧ CollAt wr bc br (foldTo (fun t x' => iter (byF (timesF P d) P.n (P.cj (i + 1 + t) i)) (x.getD (i + 1 + t) 0).toNat x') (j - (i + 1)) x2) ∧ wl.grownBy wr (some bc)) (fun s5 _ => P.n - (intOf s5).toNat)
    case atStart => exact ⟨i + 1, Nat.le_refl _, by omega, by go_num, by simpa [foldTo] using HCL.out, World.grownBy.refl _ _⟩
    case round =>
      obtain ⟨j, hj1, hj2, rfl, hcj, hgj⟩ := hrel
      have hcpj := hcj.ptr
      have hrj := HRl.out.grown hgj (by simp; omega)
      have hrnj := hrj.n
      by_cases hlt : j < P.n
      · have hxj := HX.out.2 j hlt
        have hoj := hv.ord2 j hlt
        have hRj : wr.cell? ⟨w.heap.size, j, none⟩ = some (.int .i64 (x.getD j 0)) := by
          rw [World.cell?_of_block (w := wl) (hgj.block w.heap.size (Array.getElem?_eq_some_iff.1 HRL.out).1 (by simp; omega)), cell_of_row _ _ _ _ _ _ HRL.out]
          simpa using getElem?_vec x (k := j) (by omega)
        have hj0 : (0 : Int) ≤ (j : Int) := Int.natCast_nonneg _
        have hj12 : (j : Int) < 12 := by omega
        have hnj : NV P (foldTo (fun t x' => iter (byF (timesF P d) P.n (P.cj (i + 1 + t) i)) (x.getD (i + 1 + t) 0).toNat x') (j - (i + 1)) x2) :=
          foldTo_inv _ (fun t z _ hz => iter_inv (fun z hz => byF_NV hv d _ z hz) _ _ hz) _ HNL.out
        have hfs : foldTo (fun t x' => iter (byF (timesF P d) P.n (P.cj (i + 1 + t) i)) (x.getD (i + 1 + t) 0).toNat x') (j + 1 - (i + 1)) x2 =
            iter (byF (timesF P d) P.n (P.cj j i)) (x.getD j 0).toNat (foldTo (fun t x' => iter (byF (timesF P d) P.n (P.cj (i + 1 + t) i)) (x.getD (i + 1 + t) 0).toNat x') (j - (i + 1)) x2) := by
          rw [show j + 1 - (i + 1) = (j - (i + 1)) + 1 by omega, foldTo, show i + 1 + (j - (i + 1)) = j by omega]
        generalize hmj : x.getD j 0 = mj at *
        obtain ⟨mj', rfl⟩ := Int.eq_ofNat_of_zero_le hxj.1
        rw [Int.toNat_natCast] at hfs
        have hm1 : mj' ≤ 1000 := by omega
        have HF := Lib.hid hfs
        generalize foldTo (fun t x' => iter (byF (timesF P d) P.n (P.cj (i + 1 + t) i)) (x.getD (i + 1 + t) 0).toNat x') (j - (i + 1)) x2 = xj at *
        have HNJ := Lib.hid hnj
        have HCJ := Lib.hid hcj
        have HRJ := Lib.hid hrj
        clear hmj hfs hnj hcj hrj hxj hoj
        go_wp2_with fail
        obtain ⟨wo, rfl⟩ : ∃ wo, wo = wr := ⟨_, rfl⟩
        go_loopw [74] (fun s wr => ∃ q : Nat, q ≤ mj' ∧ s = .int .i64 q ∧ CollAt wr bc br (iter (byF (timesF P d) P.n (P.cj j i)) q xj) ∧ wo.grownBy wr (some bc)) (fun s _ => mj' - (intOf s).toNat)
        case atStart => exact ⟨0, Nat.zero_le _, rfl, HCJ.out, World.grownBy.refl _ _⟩
        case round =>
          obtain ⟨q, hq, rfl, hcq, hgq⟩ := hrel
          have hcpq := hcq.ptr
          have hrq := HRJ.out.grown hgq (by simp; omega)
          have hnq : NV P (iter (byF (timesF P d) P.n (P.cj j i)) q xj) := iter_inv (fun z hz => byF_NV hv d _ z hz) _ _ HNJ.out
          have HRQ := Lib.hid hrq
          have HCQ := Lib.hid hcq
          have HNQ := Lib.hid hnq
          clear hcpj hrnj hRj hrq hcq hnq
          by_cases hql : q < mj'
          · go_wp2_with (first
              | (refine wpList_load_mid rfl 82 (.tmp 86) rfl br _ rfl (vec (P.cj j i)) _ (HRQ.out.cj j (by omega) i (by omega)) Try.underlying82 rfl (by rw [length_vec]; exact info82) ?_)
              | (go_at_call 80; refine (HB'.out _ bc br _ (P.cj j i) HCQ.out HRQ.out hne HNQ.out (norm_pow hv (hv.cj j hlt i (by omega)) hd)).mono ?_; rintro e w5 ⟨rfl, hc5, hg5⟩))
            go_roundw
            case rel => exact ⟨q + 1, by omega, by go_num, hc5, only_trans hgq hg5⟩
            case measure => simp [intOf]; omega
          · have hqm : q = mj' := by omega
            subst hqm
            go_wp2_with fail
            go_roundw
            case rel => exact ⟨j + 1, by omega, by omega, by go_num, by (rw [HF.out]; exact HCQ.out), only_trans hgj hgq⟩
            case measure => simp [intOf]; omega
      · have hjn : j = P.n := by omega
        subst hjn
        go_wp2_with fail
        go_end0
        refine ⟨rfl, ?_, only_trans HGL.out hgj⟩
        show CollAt _ _ _ (foldTo _ _ (start P d i x))
        rw [HXg.out]
        exact hcj
end Go.Proofs
