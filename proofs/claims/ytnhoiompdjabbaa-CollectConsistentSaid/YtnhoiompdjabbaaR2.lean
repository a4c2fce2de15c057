/- The reference's Times, given By. -/
import Derived.Test.YtnhoiompdjabbaaR1
import Derived.Test.YtnhoiompdjabbaaTm
import Derived.BigRegion
import Derived.ChangeAlike
import Derived.StillTailTactics
namespace Go.Proofs
open Go.RowKit Go.Proofs.Pc

/-- x with noughts behind i, up to j -/
def zl (i j : Nat) (x : List Int) : List Int := (List.range x.length).map fun k => if i < k ∧ k < j then 0 else x.getD k 0
theorem length_zl (i j : Nat) (x : List Int) : (zl i j x).length = x.length := by simp [zl]
theorem getD_zl (i j k : Nat) (x : List Int) (hk : k < x.length) : (zl i j x).getD k 0 = if i < k ∧ k < j then 0 else x.getD k 0 := by
  unfold zl
  rw [List.getD_eq_getElem?_getD, List.getElem?_map, List.getElem?_range hk]; rfl
theorem xsAt_bump {w : World} {b i : Nat} {x : List Int} (h : XsAt w b (zl i x.length x)) (hi : i < x.length) : XsAt (w.setCell ⟨b, i, none⟩ (.int .i64 (x.getD i 0 + 1))) b (bump x i) := by
  refine (h.set (by rw [length_zl]; exact hi) _).congr (by simp [length_zl, length_bump]) fun k hk => ?_
  have hk' : k < x.length := by simpa [length_zl] using hk
  rw [getD_set, length_zl, getD_bump x i k hi, getD_zl i _ k x hk']
  by_cases e : i = k
  · subst e; rw [if_pos ⟨rfl, hi⟩, if_pos rfl]
  · rw [if_neg (fun hh => e hh.1), if_neg (Ne.symm e)]
    by_cases h2 : k < i
    · rw [if_pos h2, if_neg (by omega)]
    · rw [if_neg h2, if_pos (by omega)]
theorem NV_bump0 {P : PcD} (hv : Valid P) {x : List Int} {i : Nat} (hx : NV P x) (hi : i < P.n) : NV P ((bump x i).set i 0) := by
  refine ⟨by simp [length_bump, hx.1], fun k hk => ?_⟩
  have ho' := hv.ord2 k hk
  have hxk := hx.2 k hk
  rw [getD_set, getD_bump x i k (by rw [hx.1]; exact hi)]
  by_cases hik : i = k
  · subst hik; simp [length_bump, hx.1, hi]; omega
  · simp only [hik, false_and, if_false, Ne.symm hik]
    split <;> omega
theorem NV_bump {P : PcD} (hv : Valid P) {x : List Int} {i : Nat} (hx : NV P x) (hi : i < P.n) (ho : x.getD i 0 + 1 ≠ P.ord i) : NV P (bump x i) := by
  refine ⟨by simp [length_bump, hx.1], fun k hk => ?_⟩
  have ho' := hv.ord2 k hk
  have hxk := hx.2 k hk
  rw [getD_bump x i k (by rw [hx.1]; exact hi)]
  split
  · rename_i e; subst e; omega
  · split <;> omega

/-- a cell of the powers, and of the conjugates -/
theorem pow_cell {w : World} {A1 : Option Addr} {c1 : Nat} {v0 v2 : Value} {P : PcD} (hv : Valid P) (h : PcAt w v0 (.slice A1 P.powers.length c1) v2 P) {i : Nat} (hi : i < P.n) :
    ∃ b o u, A1 = some ⟨b, o, none⟩ ∧ w.cell? ⟨b, o + i, none⟩ = some u ∧ IntsAt w u (P.pow i) := by
  obtain ⟨A, c, e, -, -, hr⟩ := h.2.1.open_
  cases e
  obtain ⟨b, o, rfl, hc⟩ := hr (by rw [hv.npow]; omega)
  obtain ⟨u, hu, hI⟩ := hc i (by rw [hv.npow]; exact hi)
  exact ⟨b, o, u, rfl, hu, hI⟩
theorem conj_cell {w : World} {A2 : Option Addr} {c2 : Nat} {v0 v1 : Value} {P : PcD} (hv : Valid P) (h : PcAt w v0 v1 (.slice A2 P.conj.length c2) P) {j i : Nat} (hj : j < P.n) (hi : i < j) :
    ∃ b o b' o' cc u, A2 = some ⟨b, o, none⟩ ∧ w.cell? ⟨b, o + j, none⟩ = some (.slice (some ⟨b', o', none⟩) j cc) ∧ j ≤ cc ∧ cc ≤ 9223372036854775807 ∧ w.cell? ⟨b', o' + i, none⟩ = some u ∧ IntsAt w u (P.cj j i) := by
  obtain ⟨A, c, e, -, -, hr⟩ := h.2.2.open_
  cases e
  obtain ⟨b, o, rfl, hc⟩ := hr (by rw [hv.ncj]; omega)
  obtain ⟨u, hu, hT⟩ := hc j (by rw [hv.ncj]; exact hj)
  obtain ⟨A', c', e', h1, h2, hr'⟩ := hT.open_
  have hl := hv.cjl j hj
  rw [hl] at e' h1 hr'
  subst e'
  obtain ⟨b', o', rfl, hc'⟩ := hr' (by omega)
  obtain ⟨u', hu', hI⟩ := hc' i hi
  exact ⟨b, o, b', o', c', u', rfl, hu, h1, h2, hu', hI⟩
theorem ord_cell {w : World} {A0 : Option Addr} {c0 : Nat} {v1 v2 : Value} {P : PcD} (h : PcAt w (.slice A0 P.orders.length c0) v1 v2 P) {i : Nat} (hi : i < P.n) : ∃ b o, A0 = some ⟨b, o, none⟩ ∧ w.cell? ⟨b, o + i, none⟩ = some (.int .i64 (P.ord i)) := by
  obtain ⟨A, c, e, -, -, hr⟩ := h.1.open_
  cases e
  obtain ⟨b, o, rfl, hc⟩ := hr (by have : P.n = P.orders.length := rfl; omega)
  exact ⟨b, o, rfl, hc i hi⟩

set_option maxRecDepth 100000 in
set_option maxHeartbeats 2000000 in
theorem rtimes_of_by {P : PcD} (hv : Valid P) {d : Nat} (HB : RByOk P d) : RTimesOk P (d + 1) := by
  intro w n₀ bx cap v0 v1 v2 x i hP hn0 hX hcap hmax hx hi hd
  have hn12 := hv.n12
  have HB' := Lib.hid HB
  clear HB
  have hbx := hX.lt
  have hxl := hx.1
  have hxi := hx.2 i hi
  have hoi := hv.ord2 i hi
  obtain ⟨⟨A0, c0, rfl⟩, ⟨A1, c1, rfl⟩, A2, c2, rfl⟩ := pc_slices hP.at_
  obtain ⟨W, hW⟩ : ∃ W, W = (w.alloc (.cells #[.slice A0 P.orders.length c0, .slice A1 P.powers.length c1, .slice A2 P.conj.length c2] 26)).alloc (.cells #[] 3) := ⟨_, rfl⟩
  have hBW : Below w.heap.size w W := by rw [hW]; exact allocs_below [_, _] w _ (Nat.le_refl _)
  have hWb : W.heap[w.heap.size]? = some (.cells #[.slice A0 P.orders.length c0, .slice A1 P.powers.length c1, .slice A2 P.conj.length c2] 26 (0, 0)) := by rw [hW]; exact allocs_get [_, Obj.cells #[] 3] w 0 _ rfl
  have hWe : W.heap[w.heap.size + 1]? = some (.cells #[] 3 (0, 0)) := by rw [hW]; exact allocs_get [Obj.cells _ 26, _] w 1 _ rfl
  have hWs : W.heap.size = w.heap.size + 2 := by rw [hW]; simp
  have hxv : IntsAt w (.slice (some ⟨bx, 0, none⟩) P.n cap) x := hX.ints hxl hcap hmax (Pc.NV.fits hv hx)
  obtain ⟨b', cap', w3, hr, hb3, hy3, hc3, hm3, hb'⟩ := run_copy hWe (hxv.below hBW) (by rw [hxl]; omega)
  have hb'x : b' ≠ bx := by omega
  have h3b : w3.heap[w.heap.size]? = some (.cells #[.slice A0 P.orders.length c0, .slice A1 P.powers.length c1, .slice A2 P.conj.length c2] 26 (0, 0)) := (hb3.block _ (by omega)).trans hWb
  have hBw3 : Below w.heap.size w w3 := hBW.trans (hb3.mono hBW.size)
  have h3s : w.heap.size + 2 ≤ w3.heap.size := by have := hb3.size; omega
  rw [hxl] at hr hc3
  rw [hW] at hr
  have HR := Lib.hid hr
  have HXX := Lib.hid hX
  have HP := Lib.hid hP
  have HX := Lib.hid hx
  have HB3 := Lib.hid hBw3
  have HY3 := Lib.hid hy3
  have H3B := Lib.hid h3b
  have HXL := Lib.hid hxl
  generalize hm : x.getD i 0 = m at *
  generalize ho : P.ord i = o at *
  have HM := Lib.hid hm
  have HO := Lib.hid ho
  have hi0 : (0 : Int) ≤ (i : Int) := Int.natCast_nonneg _
  have hin : (i : Int) < (P.n : Int) := by omega
  have hcapi : (P.n : Int) ≤ (cap : Int) := by omega
  have hin' : (i : Int) < (P.orders.length : Int) := hin
  have hinp : (i : Int) < (P.powers.length : Int) := by rw [hv.npow]; exact hin
  clear hr hX hP hx hBw3 hb3 hy3 h3b hxl hBW hWb hWe hW hWs hxv hb' hm ho
  go_enter Try.func52, Try.ntmps52
  go_wp2_with ((with_reducible refine wpList_sel 12 ?_); refine wpList_val rfl (r_app (.tmp 10) (.tmp 11) 22 rfl rfl rfl HR.out) ?_)
  go_loopw [7] (fun s wr => ∃ j : Nat, i + 1 ≤ j ∧ j ≤ P.n ∧ s = .int .i64 j ∧ XsAt wr bx (zl i j x) ∧ w3.grownBy wr (some bx)) (fun s _ => P.n - (intOf s).toNat)
  case atStart => exact ⟨i + 1, Nat.le_refl _, by omega, by go_num, (HXX.out.below HB3.out).congr (by rw [length_zl]) (fun k hk => by rw [getD_zl i _ k x hk, if_neg (by omega)]), World.grownBy.refl _ _⟩
  case round =>
    obtain ⟨j, hj1, hj2, rfl, hcr, hgr⟩ := hrel
    have HGR := Lib.hid hgr
    by_cases hlt : j < P.n
    · have hcj := hcr.cell (k := j) (by rw [length_zl, HXL.out]; exact hlt)
      have hfj := hcr.frozen j
      have hj0 : (0 : Int) ≤ (j : Int) := Int.natCast_nonneg _
      have hjn : (j : Int) < (P.n : Int) := by omega
      have hnx := (hcr.set (k := j) (by rw [length_zl, HXL.out]; exact hlt) 0).congr (y := zl i (j + 1) x) (by simp [length_zl]) (fun k hk => by
        have hk' : k < x.length := by simpa [length_zl] using hk
        rw [getD_set, length_zl, getD_zl i _ k x hk', getD_zl i _ k x hk']
        by_cases e : j = k
        · subst e; rw [if_pos ⟨rfl, hk'⟩, if_pos (by omega)]
        · rw [if_neg (fun hh => e hh.1)]
          by_cases h2 : i < k ∧ k < j
          · rw [if_pos h2, if_pos (by omega)]
          · rw [if_neg h2, if_neg (by omega)])
      have HNX := Lib.hid hnx
      clear hcr hgr hnx
      go_wp2_with fail
      go_roundw
      case rel => exact ⟨j + 1, by omega, by omega, by go_num, HNX.out, only_setCell HGR.out (.inl rfl) _⟩
      case measure => simp [intOf]; omega
    · obtain rfl : j = P.n := by omega
      have hci := hcr.cell (k := i) (by rw [length_zl, HXL.out]; exact hi)
      have hfi := hcr.frozen i
      rw [getD_zl i _ i x (by rw [HXL.out]; exact hi), if_neg (by omega), HM.out] at hci
      have hbm := xsAt_bump (i := i) (x := x) (by rw [HXL.out]; exact hcr) (by rw [HXL.out]; exact hi)
      rw [HM.out] at hbm
      have hgb : w3.grownBy (wr.setCell ⟨bx, i, none⟩ (.int .i64 (m + 1))) (some bx) := only_setCell HGR.out (.inl rfl) _
      clear hcr hgr
      go_wp2_with fail
      generalize wr.setCell ⟨bx, i, none⟩ (.int .i64 (m + 1)) = wb at *
      have hgw : w.grownBy wb (some bx) := (only_of_below HB3.out _).trans hgb
      have hPb := HP.out.grown hgw hn0 hbx
      have hrest := HY3.out.grown hgb (fun e => hb'x (Option.some.inj e))
      have hbox := (hgb.block w.heap.size (by omega) (fun e => by have := Option.some.inj e; omega)).trans H3B.out
      have hcb := hbm.cell (k := i) (by rw [length_bump, HXL.out]; exact hi)
      have hfb := hbm.frozen i
      rw [getD_bump x i i (by rw [HXL.out]; exact hi), if_pos rfl, HM.out] at hcb
      obtain ⟨bo, oo, rfl, hco⟩ := ord_cell hPb.at_ hi
      rw [HO.out] at hco
      have hk0 : wb.cell? ⟨w.heap.size, 0, none⟩ = some (.slice (some ⟨bo, oo, none⟩) P.orders.length c0) := by rw [cell_of_row _ _ _ _ _ _ hbox]; rfl
      have HBM := Lib.hid hbm
      have HGB := Lib.hid hgw
      have HPB := Lib.hid hPb
      have HREST := Lib.hid hrest
      have HBOX := Lib.hid hbox
      have hbxb := hbm.lt
      have hszb : w.heap.size + 2 ≤ wb.heap.size := by have := hgb.size; omega
      clear hbm hgw hPb hrest hbox hgb hci hfi
      have hxx : start P d i x = (if m + 1 = o then byF (timesF P d) P.n (P.pow i) ((bump x i).set i 0) else bump x i) := by unfold start; rw [HM.out, HO.out]
      have HXG := Lib.hid hxx
      clear hxx
      by_cases hmo : m + 1 = o
      · have d1 : (m + 1 == o) = true := by simpa using hmo
        have HMO := Lib.hid hmo
        clear hmo
        have HNB := Lib.hid (NV_bump0 hv HX.out hi)
        go_wp2_with fail
        go_quiet (fail)
        have hst := (HBM.out.set (k := i) (by rw [length_bump, HXL.out]; exact hi) 0)
        have hxs0 : XsAt ((wb.drewN nq).setCell ⟨bx, i, none⟩ (.int .i64 0)) bx ((bump x i).set i 0) := (XsAt.keep (w' := wb.drewN nq) HBM.out rfl).set (by rw [length_bump, HXL.out]; exact hi) 0
        have hg0 : wb.grownBy ((wb.drewN nq).setCell ⟨bx, i, none⟩ (.int .i64 0)) (some bx) := only_setCell (only_drewN (World.grownBy.refl wb _) nq) (.inl rfl) _
        have hP0 := HPB.out.grown hg0 hn0 hbxb
        have hb0 := (hg0.block w.heap.size (by omega) (fun e => by have := Option.some.inj e; omega)).trans HBOX.out
        obtain ⟨bp, op_, up, rfl, hcp, hIp⟩ := pow_cell hv hP0.at_ hi
        have hk1 : ((wb.drewN nq).setCell ⟨bx, i, none⟩ (.int .i64 0)).cell? ⟨w.heap.size, 1, none⟩ = some (.slice (some ⟨bp, op_, none⟩) P.powers.length c1) := by rw [cell_of_row _ _ _ _ _ _ hb0]; rfl
        have HX0 := Lib.hid hxs0
        have HG0 := Lib.hid hg0
        have HP0 := Lib.hid hP0
        have HB0 := Lib.hid hb0
        have HIP := Lib.hid hIp
        clear hst hxs0 hg0 hP0 hb0 hIp
        go_wp2_with fail
        generalize (wb.drewN nq).setCell ⟨bx, i, none⟩ (.int .i64 0) = ws at *
        have hk0' : ws.cell? ⟨w.heap.size, 0, none⟩ = some (.slice (some ⟨bo, oo, none⟩) P.orders.length c0) := by rw [cell_of_row _ _ _ _ _ _ HB0.out]; rfl
        have hk2' : ws.cell? ⟨w.heap.size, 2, none⟩ = some (.slice A2 P.conj.length c2) := by rw [cell_of_row _ _ _ _ _ _ HB0.out]; rfl
        go_still_tail 7, (by kernel_rfl)
        change wpList _ _ _ _ _ ws.drew
        obtain ⟨wd, hwd⟩ : ∃ wd, wd = ws.drew := ⟨_, rfl⟩
        have hkd : ∀ k, k < ws.heap.size → wd.heap[k]? = ws.heap[k]? := fun _ _ => by rw [hwd]; rfl
        have hXd := HX0.out.keep (w' := wd) (by rw [hwd]; rfl)
        have hPd := HP0.out.keep (w' := wd) (fun _ _ => by rw [hwd]; rfl)
        have hId : IntsAt wd up (P.pow i) := kept_ints _ _ _ _ hkd HIP.out
        have hgd : wb.grownBy wd (some bx) := by rw [hwd]; exact only_drew HG0.out
        rw [← hwd]
        have HKC := Lib.hid (HB'.out wd n₀ bx cap _ _ _ up _ (P.pow i) hPd hn0 hXd hcap hmax HNB.out hId (hv.pow i hi).1 (norm_pow hv (hv.pow i hi) hd))
        have HGD := Lib.hid hgd
        clear hkd hXd hPd hId hgd hwd hk0' hk2' hk1 hcp
        go_wp2_with (go_at_call 78; (refine HKC.out.mono ?_); rintro e wl ⟨rfl, hcl, hgl⟩; have HXL2 := Lib.hid hcl; have HGL2 := Lib.hid (HGD.out.trans hgl); clear hcl hgl)
        have HNL := Lib.hid (byF_NV hv d (P.pow i) _ HNB.out)
        have HXG2 := Lib.hid (HXG.out.trans (if_pos HMO.out))
        generalize byF (timesF P d) P.n (P.pow i) ((bump x i).set i 0) = x2 at *
        have HGL := Lib.hid (HGB.out.trans HGL2.out)
        have HRL := Lib.hid (HREST.out.grown HGL2.out (fun e => hb'x (Option.some.inj e)))
        have HPL := Lib.hid (HPB.out.grown HGL2.out hn0 hbxb)
        have HBL := Lib.hid ((HGL2.out.block w.heap.size (by omega) (fun e => by have := Option.some.inj e; omega)).trans HBOX.out)
        have hsl : w.heap.size + 2 ≤ wl.heap.size := by have := HGL2.out.size; omega
        have hbxl := HXL2.out.lt
        clear hk0 hcb hfb hco
        go_wp2_with fail
        go_loopw [8] (fun s8 wr => ∃ j : Nat, i + 1 ≤ j ∧ j ≤ P.n ∧ s8 = .int .i64 j ∧ XsAt wr bx (foldTo (fun t x' => iter (byF (timesF P d) P.n (P.cj (i + 1 + t) i)) (x.getD (i + 1 + t) 0).toNat x') (j - (i + 1)) x2) ∧ wl.grownBy wr (some bx)) (fun s8 _ => P.n - (intOf s8).toNat)
        case atStart => exact ⟨i + 1, Nat.le_refl _, by omega, by go_num, by simpa [foldTo] using HXL2.out, World.grownBy.refl _ _⟩
        case round =>
          obtain ⟨j, hj1, hj2, rfl, hcj, hgj⟩ := hrel
          have HGJ := Lib.hid hgj
          by_cases hlt : j < P.n
          · have hxj := HX.out.2 j hlt
            have hoj := hv.ord2 j hlt
            have hRj := (HRL.out.grown hgj (fun e => hb'x (Option.some.inj e))).cell (k := j) (by rw [HXL.out]; exact hlt)
            have hj0 : (0 : Int) ≤ (j : Int) := Int.natCast_nonneg _
            have hjn : (j : Int) < (P.n : Int) := by omega
            have hjc : (j : Int) < (P.conj.length : Int) := by rw [hv.ncj]; exact hjn
            have hij : (i : Int) < (j : Int) := by omega
            have hnj : NV P (foldTo (fun t x' => iter (byF (timesF P d) P.n (P.cj (i + 1 + t) i)) (x.getD (i + 1 + t) 0).toNat x') (j - (i + 1)) x2) :=
              foldTo_inv _ (fun t z _ hz => iter_inv (fun z hz => byF_NV hv d _ z hz) _ _ hz) _ HNL.out
            have hfs : foldTo (fun t x' => iter (byF (timesF P d) P.n (P.cj (i + 1 + t) i)) (x.getD (i + 1 + t) 0).toNat x') (j + 1 - (i + 1)) x2 =
                iter (byF (timesF P d) P.n (P.cj j i)) (x.getD j 0).toNat (foldTo (fun t x' => iter (byF (timesF P d) P.n (P.cj (i + 1 + t) i)) (x.getD (i + 1 + t) 0).toNat x') (j - (i + 1)) x2) := by
              rw [show j + 1 - (i + 1) = (j - (i + 1)) + 1 by omega, foldTo, show i + 1 + (j - (i + 1)) = j by omega]
            generalize hmj : x.getD j 0 = mj at *
            obtain ⟨mj', rfl⟩ := Int.eq_ofNat_of_zero_le hxj.1
            rw [Int.toNat_natCast] at hfs
            have hm1 : mj' ≤ 1000 := by omega
            have HF := Lib.hid hfs
            generalize foldTo (fun t x' => iter (byF (timesF P d) P.n (P.cj (i + 1 + t) i)) (x.getD (i + 1 + t) 0).toNat x') (j - (i + 1)) x2 = xj at *
            have HNJ := Lib.hid hnj
            have HCJ := Lib.hid hcj
            have HMJ := Lib.hid hmj
            clear hmj hfs hnj hcj hxj hoj hgj
            go_wp2_with fail
            obtain ⟨wo, rfl⟩ : ∃ wo, wo = wr := ⟨_, rfl⟩
            have hbxo := HCJ.out.lt
            go_loopw [9] (fun s wr => ∃ q : Nat, q ≤ mj' ∧ s = .int .i64 q ∧ XsAt wr bx (iter (byF (timesF P d) P.n (P.cj j i)) q xj) ∧ wo.grownBy wr (some bx)) (fun s _ => mj' - (intOf s).toNat)
            case atStart => exact ⟨0, Nat.zero_le _, rfl, HCJ.out, World.grownBy.refl _ _⟩
            case round =>
              obtain ⟨q, hq, rfl, hcq, hgq⟩ := hrel
              have hnq : NV P (iter (byF (timesF P d) P.n (P.cj j i)) q xj) := iter_inv (fun z hz => byF_NV hv d _ z hz) _ _ HNJ.out
              have hglq : wl.grownBy wr (some bx) := HGJ.out.trans hgq
              have hRq : wr.cell? ⟨b', j, none⟩ = some (.int .i64 (mj' : Int)) := by
                have := (HRL.out.grown hglq (fun e => hb'x (Option.some.inj e))).cell (k := j) (by rw [HXL.out]; exact hlt)
                rwa [HMJ.out] at this
              have hPq := HPL.out.grown hglq hn0 hbxl
              have hbq := (hglq.block w.heap.size (by omega) (fun e => by have := Option.some.inj e; omega)).trans HBL.out
              have HCQ := Lib.hid hcq
              have HNQ := Lib.hid hnq
              have HGQ := Lib.hid hgq
              have hbxq := hcq.lt
              clear hRj hcq hnq hgq hglq
              by_cases hql : q < mj'
              · obtain ⟨b2, o2, b3, o3, cc, uc, rfl, hu1, hcc1, hcc2, hu2, hIc⟩ := conj_cell hv hPq.at_ hlt (show i < j by omega)
                have hq0 : wr.cell? ⟨w.heap.size, 0, none⟩ = some (.slice (some ⟨bo, oo, none⟩) P.orders.length c0) := by rw [cell_of_row _ _ _ _ _ _ hbq]; rfl
                have hq1 : wr.cell? ⟨w.heap.size, 1, none⟩ = some (.slice (some ⟨bp, op_, none⟩) P.powers.length c1) := by rw [cell_of_row _ _ _ _ _ _ hbq]; rfl
                have hq2 : wr.cell? ⟨w.heap.size, 2, none⟩ = some (.slice (some ⟨b2, o2, none⟩) P.conj.length c2) := by rw [cell_of_row _ _ _ _ _ _ hbq]; rfl
                have HIC := Lib.hid hIc
                have HPQ := Lib.hid hPq
                clear hIc hPq hbq
                go_wp2_with fail
                go_still_tail 10, (by kernel_rfl)
                change wpList _ _ _ _ _ wr.drew
                obtain ⟨wd, hwd⟩ : ∃ wd, wd = wr.drew := ⟨_, rfl⟩
                have hkd : ∀ k, k < wr.heap.size → wd.heap[k]? = wr.heap[k]? := fun _ _ => by rw [hwd]; rfl
                have hXd := HCQ.out.keep (w' := wd) (by rw [hwd]; rfl)
                have hPd := HPQ.out.keep (w' := wd) (fun _ _ => by rw [hwd]; rfl)
                have hId : IntsAt wd uc (P.cj j i) := kept_ints _ _ _ _ hkd HIC.out
                have hgd : wr.grownBy wd (some bx) := by rw [hwd]; exact only_drew (World.grownBy.refl _ _)
                rw [← hwd]
                have HKC := Lib.hid (HB'.out wd n₀ bx cap _ _ _ uc _ (P.cj j i) hPd hn0 hXd hcap hmax HNQ.out hId (hv.cj j hlt i (by omega)).1 (norm_pow hv (hv.cj j hlt i (by omega)) hd))
                have HGD := Lib.hid hgd
                clear hkd hXd hPd hId hgd hwd
                go_wp2_with (go_at_call 78; (refine HKC.out.mono ?_); rintro e w5 ⟨rfl, hc5, hg5⟩; have HC5 := Lib.hid hc5; have HG5 := Lib.hid ((HGQ.out.trans HGD.out).trans hg5); clear hc5 hg5)
                go_roundw
                case rel => exact ⟨q + 1, by omega, by go_num, HC5.out, HG5.out⟩
                case measure => simp [intOf]; omega
              · obtain rfl : q = mj' := by omega
                clear hPq hbq
                go_wp2_with fail
                go_roundw
                case rel => exact ⟨j + 1, by omega, by omega, by go_num, by (rw [HF.out]; exact HCQ.out), HGJ.out.trans HGQ.out⟩
                case measure => simp [intOf]; omega
          · obtain rfl : j = P.n := by omega
            go_wp2_with fail
            go_end0
            refine ⟨rfl, ?_, HGL.out.trans hgj⟩
            show XsAt _ _ (foldTo _ _ (start P d i x))
            rw [HXG2.out]
            exact hcj
      · have d1 : (m + 1 == o) = false := by simpa using hmo
        have HMO := Lib.hid hmo
        clear hmo
        have HNL := Lib.hid (NV_bump hv HX.out hi (by rw [HM.out, HO.out]; exact HMO.out))
        have HXG2 := Lib.hid (HXG.out.trans (if_neg HMO.out))
        go_wp2_with fail
        go_quiet (fail)
        obtain ⟨wl, hwl⟩ : ∃ wl, wl = wb.drewN nq := ⟨_, rfl⟩
        have HXL2 := Lib.hid (HBM.out.keep (w' := wl) (by rw [hwl]; rfl))
        have HGL2 : Hid (wb.grownBy wl (some bx)) := Lib.hid (by rw [hwl]; exact only_drewN (World.grownBy.refl wb _) nq)
        rw [← hwl]
        generalize bump x i = x2 at *
        clear hwl
        have HGL := Lib.hid (HGB.out.trans HGL2.out)
        have HRL := Lib.hid (HREST.out.grown HGL2.out (fun e => hb'x (Option.some.inj e)))
        have HPL := Lib.hid (HPB.out.grown HGL2.out hn0 hbxb)
        have HBL := Lib.hid ((HGL2.out.block w.heap.size (by omega) (fun e => by have := Option.some.inj e; omega)).trans HBOX.out)
        have hsl : w.heap.size + 2 ≤ wl.heap.size := by have := HGL2.out.size; omega
        have hbxl := HXL2.out.lt
        clear hk0 hcb hfb hco
        go_wp2_with fail
        go_loopw [8] (fun s8 wr => ∃ j : Nat, i + 1 ≤ j ∧ j ≤ P.n ∧ s8 = .int .i64 j ∧ XsAt wr bx (foldTo (fun t x' => iter (byF (timesF P d) P.n (P.cj (i + 1 + t) i)) (x.getD (i + 1 + t) 0).toNat x') (j - (i + 1)) x2) ∧ wl.grownBy wr (some bx)) (fun s8 _ => P.n - (intOf s8).toNat)
        case atStart => exact ⟨i + 1, Nat.le_refl _, by omega, by go_num, by simpa [foldTo] using HXL2.out, World.grownBy.refl _ _⟩
        case round =>
          obtain ⟨j, hj1, hj2, rfl, hcj, hgj⟩ := hrel
          have HGJ := Lib.hid hgj
          by_cases hlt : j < P.n
          · have hxj := HX.out.2 j hlt
            have hoj := hv.ord2 j hlt
            have hRj := (HRL.out.grown hgj (fun e => hb'x (Option.some.inj e))).cell (k := j) (by rw [HXL.out]; exact hlt)
            have hj0 : (0 : Int) ≤ (j : Int) := Int.natCast_nonneg _
            have hjn : (j : Int) < (P.n : Int) := by omega
            have hjc : (j : Int) < (P.conj.length : Int) := by rw [hv.ncj]; exact hjn
            have hij : (i : Int) < (j : Int) := by omega
            have hnj : NV P (foldTo (fun t x' => iter (byF (timesF P d) P.n (P.cj (i + 1 + t) i)) (x.getD (i + 1 + t) 0).toNat x') (j - (i + 1)) x2) :=
              foldTo_inv _ (fun t z _ hz => iter_inv (fun z hz => byF_NV hv d _ z hz) _ _ hz) _ HNL.out
            have hfs : foldTo (fun t x' => iter (byF (timesF P d) P.n (P.cj (i + 1 + t) i)) (x.getD (i + 1 + t) 0).toNat x') (j + 1 - (i + 1)) x2 =
                iter (byF (timesF P d) P.n (P.cj j i)) (x.getD j 0).toNat (foldTo (fun t x' => iter (byF (timesF P d) P.n (P.cj (i + 1 + t) i)) (x.getD (i + 1 + t) 0).toNat x') (j - (i + 1)) x2) := by
              rw [show j + 1 - (i + 1) = (j - (i + 1)) + 1 by omega, foldTo, show i + 1 + (j - (i + 1)) = j by omega]
            generalize hmj : x.getD j 0 = mj at *
            obtain ⟨mj', rfl⟩ := Int.eq_ofNat_of_zero_le hxj.1
            rw [Int.toNat_natCast] at hfs
            have hm1 : mj' ≤ 1000 := by omega
            have HF := Lib.hid hfs
            generalize foldTo (fun t x' => iter (byF (timesF P d) P.n (P.cj (i + 1 + t) i)) (x.getD (i + 1 + t) 0).toNat x') (j - (i + 1)) x2 = xj at *
            have HNJ := Lib.hid hnj
            have HCJ := Lib.hid hcj
            have HMJ := Lib.hid hmj
            clear hmj hfs hnj hcj hxj hoj hgj
            go_wp2_with fail
            obtain ⟨wo, rfl⟩ : ∃ wo, wo = wr := ⟨_, rfl⟩
            have hbxo := HCJ.out.lt
            go_loopw [9] (fun s wr => ∃ q : Nat, q ≤ mj' ∧ s = .int .i64 q ∧ XsAt wr bx (iter (byF (timesF P d) P.n (P.cj j i)) q xj) ∧ wo.grownBy wr (some bx)) (fun s _ => mj' - (intOf s).toNat)
            case atStart => exact ⟨0, Nat.zero_le _, rfl, HCJ.out, World.grownBy.refl _ _⟩
            case round =>
              obtain ⟨q, hq, rfl, hcq, hgq⟩ := hrel
              have hnq : NV P (iter (byF (timesF P d) P.n (P.cj j i)) q xj) := iter_inv (fun z hz => byF_NV hv d _ z hz) _ _ HNJ.out
              have hglq : wl.grownBy wr (some bx) := HGJ.out.trans hgq
              have hRq : wr.cell? ⟨b', j, none⟩ = some (.int .i64 (mj' : Int)) := by
                have := (HRL.out.grown hglq (fun e => hb'x (Option.some.inj e))).cell (k := j) (by rw [HXL.out]; exact hlt)
                rwa [HMJ.out] at this
              have hPq := HPL.out.grown hglq hn0 hbxl
              have hbq := (hglq.block w.heap.size (by omega) (fun e => by have := Option.some.inj e; omega)).trans HBL.out
              have HCQ := Lib.hid hcq
              have HNQ := Lib.hid hnq
              have HGQ := Lib.hid hgq
              have hbxq := hcq.lt
              clear hRj hcq hnq hgq hglq
              by_cases hql : q < mj'
              · obtain ⟨b2, o2, b3, o3, cc, uc, rfl, hu1, hcc1, hcc2, hu2, hIc⟩ := conj_cell hv hPq.at_ hlt (show i < j by omega)
                have hq0 : wr.cell? ⟨w.heap.size, 0, none⟩ = some (.slice (some ⟨bo, oo, none⟩) P.orders.length c0) := by rw [cell_of_row _ _ _ _ _ _ hbq]; rfl
                have hq1 : wr.cell? ⟨w.heap.size, 1, none⟩ = some (.slice A1 P.powers.length c1) := by rw [cell_of_row _ _ _ _ _ _ hbq]; rfl
                have hq2 : wr.cell? ⟨w.heap.size, 2, none⟩ = some (.slice (some ⟨b2, o2, none⟩) P.conj.length c2) := by rw [cell_of_row _ _ _ _ _ _ hbq]; rfl
                have HIC := Lib.hid hIc
                have HPQ := Lib.hid hPq
                clear hIc hPq hbq
                go_wp2_with fail
                go_still_tail 10, (by kernel_rfl)
                change wpList _ _ _ _ _ wr.drew
                obtain ⟨wd, hwd⟩ : ∃ wd, wd = wr.drew := ⟨_, rfl⟩
                have hkd : ∀ k, k < wr.heap.size → wd.heap[k]? = wr.heap[k]? := fun _ _ => by rw [hwd]; rfl
                have hXd := HCQ.out.keep (w' := wd) (by rw [hwd]; rfl)
                have hPd := HPQ.out.keep (w' := wd) (fun _ _ => by rw [hwd]; rfl)
                have hId : IntsAt wd uc (P.cj j i) := kept_ints _ _ _ _ hkd HIC.out
                have hgd : wr.grownBy wd (some bx) := by rw [hwd]; exact only_drew (World.grownBy.refl _ _)
                rw [← hwd]
                have HKC := Lib.hid (HB'.out wd n₀ bx cap _ _ _ uc _ (P.cj j i) hPd hn0 hXd hcap hmax HNQ.out hId (hv.cj j hlt i (by omega)).1 (norm_pow hv (hv.cj j hlt i (by omega)) hd))
                have HGD := Lib.hid hgd
                clear hkd hXd hPd hId hgd hwd
                go_wp2_with (go_at_call 78; (refine HKC.out.mono ?_); rintro e w5 ⟨rfl, hc5, hg5⟩; have HC5 := Lib.hid hc5; have HG5 := Lib.hid ((HGQ.out.trans HGD.out).trans hg5); clear hc5 hg5)
                go_roundw
                case rel => exact ⟨q + 1, by omega, by go_num, HC5.out, HG5.out⟩
                case measure => simp [intOf]; omega
              · obtain rfl : q = mj' := by omega
                clear hPq hbq
                go_wp2_with fail
                go_roundw
                case rel => exact ⟨j + 1, by omega, by omega, by go_num, by (rw [HF.out]; exact HCQ.out), HGJ.out.trans HGQ.out⟩
                case measure => simp [intOf]; omega
          · obtain rfl : j = P.n := by omega
            go_wp2_with fail
            go_end0
            refine ⟨rfl, ?_, HGL.out.trans hgj⟩
            show XsAt _ _ (foldTo _ _ (start P d i x))
            rw [HXG2.out]
            exact hcj

theorem rtimes_ok {P : PcD} (hv : Valid P) : ∀ d, RTimesOk P d
  | 0 => fun w n₀ bx cap v0 v1 v2 x i _ _ _ _ _ _ hi hd => absurd hd (by omega)
  | d + 1 => rtimes_of_by hv (rby_of_times hv (rtimes_ok hv d))
theorem rby_ok {P : PcD} (hv : Valid P) (d : Nat) : RByOk P d := rby_of_times hv (rtimes_ok hv d)
end Go.Proofs
