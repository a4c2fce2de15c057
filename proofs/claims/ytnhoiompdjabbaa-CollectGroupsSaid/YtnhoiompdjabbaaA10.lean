/- The reference's Times, given By; The reference's product, unit, equal; slices.Repeat of one letter. -/
import Derived.Test.YtnhoiompdjabbaaA9
import Derived.Test.YtnhoiompdjabbaaA3
import Derived.BigRegion
import Derived.ChangeAlike
import Derived.StillTailTactics
import Derived.Test.YtnhoiompdjabbaaA1
import Derived.Laws.MakeOwn
import Derived.Shelf.Bits.Mul64
import Derived.Laws.CopyOwn
namespace Go.Proofs
open Go.RowKit Go.Proofs.Pc

/-- x with noughts behind i, up to j -/
def zl (i j : Nat) (x : List Int) : List Int := (List.range x.length).map fun k => if i < k ∧ k < j then 0 else x.getD k 0
theorem length_zl (i j : Nat) (x : List Int) : (zl i j x).length = x.length := by simp [zl]
theorem getD_zl (i j k : Nat) (x : List Int) (hk : k < x.length) : (zl i j x).getD k 0 = if i < k ∧ k < j then 0 else x.getD k 0 := by
  unfold zl
  rw [List.getD_eq_getElem?_getD, List.getElem?_map, List.getElem?_range hk]; rfl
theorem xsAt_bump {w : World} {b i : Nat} {x : List Int} (h : XsAt w b (zl i x.length x)) (hi : i < x.length) : XsAt (w.setCell ⟨b, i, none⟩ (.int .i64 (x.getD i 0 + 1))) b (bump x i) := by
  refine (h.set (by rw [length_zl]; exact hi) _).congr (by simp [length_zl, length_bump]) fun k hk => ?_
  have hk' : k < x.length := by simpa [length_zl] using hk
  rw [getD_set, length_zl, getD_bump x i k hi, getD_zl i _ k x hk']
  by_cases e : i = k
  · subst e; rw [if_pos ⟨rfl, hi⟩, if_pos rfl]
  · rw [if_neg (fun hh => e hh.1), if_neg (Ne.symm e)]
    by_cases h2 : k < i
    · rw [if_pos h2, if_neg (by omega)]
    · rw [if_neg h2, if_pos (by omega)]
theorem NV_bump0 {P : PcD} (hv : Valid P) {x : List Int} {i : Nat} (hx : NV P x) (hi : i < P.n) : NV P ((bump x i).set i 0) := by
  refine ⟨by simp [length_bump, hx.1], fun k hk => ?_⟩
  have ho' := hv.ord2 k hk
  have hxk := hx.2 k hk
  rw [getD_set, getD_bump x i k (by rw [hx.1]; exact hi)]
  by_cases hik : i = k
  · subst hik; simp [length_bump, hx.1, hi]; omega
  · simp only [hik, false_and, if_false, Ne.symm hik]
    split <;> omega
theorem NV_bump {P : PcD} (hv : Valid P) {x : List Int} {i : Nat} (hx : NV P x) (hi : i < P.n) (ho : x.getD i 0 + 1 ≠ P.ord i) : NV P (bump x i) := by
  refine ⟨by simp [length_bump, hx.1], fun k hk => ?_⟩
  have ho' := hv.ord2 k hk
  have hxk := hx.2 k hk
  rw [getD_bump x i k (by rw [hx.1]; exact hi)]
  split
  · rename_i e; subst e; omega
  · split <;> omega

/-- a cell of the powers, and of the conjugates -/
theorem pow_cell {w : World} {A1 : Option Addr} {c1 : Nat} {v0 v2 : Value} {P : PcD} (hv : Valid P) (h : PcAt w v0 (.slice A1 P.powers.length c1) v2 P) {i : Nat} (hi : i < P.n) :
    ∃ b o u, A1 = some ⟨b, o, none⟩ ∧ w.cell? ⟨b, o + i, none⟩ = some u ∧ IntsAt w u (P.pow i) := by
  obtain ⟨A, c, e, -, -, hr⟩ := h.2.1.open_
  cases e
  obtain ⟨b, o, rfl, hc⟩ := hr (by rw [hv.npow]; omega)
  obtain ⟨u, hu, hI⟩ := hc i (by rw [hv.npow]; exact hi)
  exact ⟨b, o, u, rfl, hu, hI⟩
theorem conj_cell {w : World} {A2 : Option Addr} {c2 : Nat} {v0 v1 : Value} {P : PcD} (hv : Valid P) (h : PcAt w v0 v1 (.slice A2 P.conj.length c2) P) {j i : Nat} (hj : j < P.n) (hi : i < j) :
    ∃ b o b' o' cc u, A2 = some ⟨b, o, none⟩ ∧ w.cell? ⟨b, o + j, none⟩ = some (.slice (some ⟨b', o', none⟩) j cc) ∧ j ≤ cc ∧ cc ≤ 9223372036854775807 ∧ w.cell? ⟨b', o' + i, none⟩ = some u ∧ IntsAt w u (P.cj j i) := by
  obtain ⟨A, c, e, -, -, hr⟩ := h.2.2.open_
  cases e
  obtain ⟨b, o, rfl, hc⟩ := hr (by rw [hv.ncj]; omega)
  obtain ⟨u, hu, hT⟩ := hc j (by rw [hv.ncj]; exact hj)
  obtain ⟨A', c', e', h1, h2, hr'⟩ := hT.open_
  have hl := hv.cjl j hj
  rw [hl] at e' h1 hr'
  subst e'
  obtain ⟨b', o', rfl, hc'⟩ := hr' (by omega)
  obtain ⟨u', hu', hI⟩ := hc' i hi
  exact ⟨b, o, b', o', c', u', rfl, hu, h1, h2, hu', hI⟩
theorem ord_cell {w : World} {A0 : Option Addr} {c0 : Nat} {v1 v2 : Value} {P : PcD} (h : PcAt w (.slice A0 P.orders.length c0) v1 v2 P) {i : Nat} (hi : i < P.n) : ∃ b o, A0 = some ⟨b, o, none⟩ ∧ w.cell? ⟨b, o + i, none⟩ = some (.int .i64 (P.ord i)) := by
  obtain ⟨A, c, e, -, -, hr⟩ := h.1.open_
  cases e
  obtain ⟨b, o, rfl, hc⟩ := hr (by have : P.n = P.orders.length := rfl; omega)
  exact ⟨b, o, rfl, hc i hi⟩

set_option maxRecDepth 100000 in
set_option maxHeartbeats 2000000 in
theorem rtimes_of_by {P : PcD} (hv : Valid P) {d : Nat} (HB : RByOk P d) : RTimesOk P (d + 1) := by
  intro w n₀ bx cap v0 v1 v2 x i hP hn0 hX hcap hmax hx hi hd
  have hn12 := hv.n12
  have HB' := Lib.hid HB
  clear HB
  have hbx := hX.lt
  have hxl := hx.1
  have hxi := hx.2 i hi
  have hoi := hv.ord2 i hi
  obtain ⟨⟨A0, c0, rfl⟩, ⟨A1, c1, rfl⟩, A2, c2, rfl⟩ := pc_slices hP.at_
  obtain ⟨W, hW⟩ : ∃ W, W = (w.alloc (.cells #[.slice A0 P.orders.length c0, .slice A1 P.powers.length c1, .slice A2 P.conj.length c2] 26)).alloc (.cells #[] 3) := ⟨_, rfl⟩
  have hBW : Below w.heap.size w W := by rw [hW]; exact allocs_below [_, _] w _ (Nat.le_refl _)
  have hWb : W.heap[w.heap.size]? = some (.cells #[.slice A0 P.orders.length c0, .slice A1 P.powers.length c1, .slice A2 P.conj.length c2] 26 (0, 0)) := by rw [hW]; exact allocs_get [_, Obj.cells #[] 3] w 0 _ rfl
  have hWe : W.heap[w.heap.size + 1]? = some (.cells #[] 3 (0, 0)) := by rw [hW]; exact allocs_get [Obj.cells _ 26, _] w 1 _ rfl
  have hWs : W.heap.size = w.heap.size + 2 := by rw [hW]; simp
  have hxv : IntsAt w (.slice (some ⟨bx, 0, none⟩) P.n cap) x := hX.ints hxl hcap hmax (Pc.NV.fits hv hx)
  obtain ⟨b', cap', w3, hr, hb3, hy3, hc3, hm3, hb'⟩ := run_copy hWe (hxv.below hBW) (by rw [hxl]; omega)
  have hb'x : b' ≠ bx := by omega
  have h3b : w3.heap[w.heap.size]? = some (.cells #[.slice A0 P.orders.length c0, .slice A1 P.powers.length c1, .slice A2 P.conj.length c2] 26 (0, 0)) := (hb3.block _ (by omega)).trans hWb
  have hBw3 : Below w.heap.size w w3 := hBW.trans (hb3.mono hBW.size)
  have h3s : w.heap.size + 2 ≤ w3.heap.size := by have := hb3.size; omega
  rw [hxl] at hr hc3
  rw [hW] at hr
  have HR := Lib.hid hr
  have HXX := Lib.hid hX
  have HP := Lib.hid hP
  have HX := Lib.hid hx
  have HB3 := Lib.hid hBw3
  have HY3 := Lib.hid hy3
  have H3B := Lib.hid h3b
  have HXL := Lib.hid hxl
  generalize hm : x.getD i 0 = m at *
  generalize ho : P.ord i = o at *
  have HM := Lib.hid hm
  have HO := Lib.hid ho
  have hi0 : (0 : Int) ≤ (i : Int) := Int.natCast_nonneg _
  have hin : (i : Int) < (P.n : Int) := by omega
  have hcapi : (P.n : Int) ≤ (cap : Int) := by omega
  have hin' : (i : Int) < (P.orders.length : Int) := hin
  have hinp : (i : Int) < (P.powers.length : Int) := by rw [hv.npow]; exact hin
  clear hr hX hP hx hBw3 hb3 hy3 h3b hxl hBW hWb hWe hW hWs hxv hb' hm ho
  go_enter Try.func52, Try.ntmps52
  go_wp2_with ((with_reducible refine wpList_sel 12 ?_); refine wpList_val rfl (r_app (.tmp 10) (.tmp 11) 22 rfl rfl rfl HR.out) ?_)
  go_loopw [7] (fun s wr => ∃ j : Nat, i + 1 ≤ j ∧ j ≤ P.n ∧ s = .int .i64 j ∧ XsAt wr bx (zl i j x) ∧ w3.grownBy wr (some bx)) (fun s _ => P.n - (intOf s).toNat)
  case atStart => exact ⟨i + 1, Nat.le_refl _, by omega, by go_num, (HXX.out.below HB3.out).congr (by rw [length_zl]) (fun k hk => by rw [getD_zl i _ k x hk, if_neg (by omega)]), World.grownBy.refl _ _⟩
  case round =>
    obtain ⟨j, hj1, hj2, rfl, hcr, hgr⟩ := hrel
    have HGR := Lib.hid hgr
    by_cases hlt : j < P.n
    · have hcj := hcr.cell (k := j) (by rw [length_zl, HXL.out]; exact hlt)
      have hfj := hcr.frozen j
      have hj0 : (0 : Int) ≤ (j : Int) := Int.natCast_nonneg _
      have hjn : (j : Int) < (P.n : Int) := by omega
      have hnx := (hcr.set (k := j) (by rw [length_zl, HXL.out]; exact hlt) 0).congr (y := zl i (j + 1) x) (by simp [length_zl]) (fun k hk => by
        have hk' : k < x.length := by simpa [length_zl] using hk
        rw [getD_set, length_zl, getD_zl i _ k x hk', getD_zl i _ k x hk']
        by_cases e : j = k
        · subst e; rw [if_pos ⟨rfl, hk'⟩, if_pos (by omega)]
        · rw [if_neg (fun hh => e hh.1)]
          by_cases h2 : i < k ∧ k < j
          · rw [if_pos h2, if_pos (by omega)]
          · rw [if_neg h2, if_neg (by omega)])
      have HNX := Lib.hid hnx
      clear hcr hgr hnx
      go_wp2_with fail
      go_roundw
      case rel => exact ⟨j + 1, by omega, by omega, by go_num, HNX.out, only_setCell HGR.out (.inl rfl) _⟩
      case measure => simp [intOf]; omega
    · obtain rfl : j = P.n := by omega
      have hci := hcr.cell (k := i) (by rw [length_zl, HXL.out]; exact hi)
      have hfi := hcr.frozen i
      rw [getD_zl i _ i x (by rw [HXL.out]; exact hi), if_neg (by omega), HM.out] at hci
      have hbm := xsAt_bump (i := i) (x := x) (by rw [HXL.out]; exact hcr) (by rw [HXL.out]; exact hi)
      rw [HM.out] at hbm
      have hgb : w3.grownBy (wr.setCell ⟨bx, i, none⟩ (.int .i64 (m + 1))) (some bx) := only_setCell HGR.out (.inl rfl) _
      clear hcr hgr
      go_wp2_with fail
      generalize wr.setCell ⟨bx, i, none⟩ (.int .i64 (m + 1)) = wb at *
      have hgw : w.grownBy wb (some bx) := (only_of_below HB3.out _).trans hgb
      have hPb := HP.out.grown hgw hn0 hbx
      have hrest := HY3.out.grown hgb (fun e => hb'x (Option.some.inj e))
      have hbox := (hgb.block w.heap.size (by omega) (fun e => by have := Option.some.inj e; omega)).trans H3B.out
      have hcb := hbm.cell (k := i) (by rw [length_bump, HXL.out]; exact hi)
      have hfb := hbm.frozen i
      rw [getD_bump x i i (by rw [HXL.out]; exact hi), if_pos rfl, HM.out] at hcb
      obtain ⟨bo, oo, rfl, hco⟩ := ord_cell hPb.at_ hi
      rw [HO.out] at hco
      have hk0 : wb.cell? ⟨w.heap.size, 0, none⟩ = some (.slice (some ⟨bo, oo, none⟩) P.orders.length c0) := by rw [cell_of_row _ _ _ _ _ _ hbox]; rfl
      have HBM := Lib.hid hbm
      have HGB := Lib.hid hgw
      have HPB := Lib.hid hPb
      have HREST := Lib.hid hrest
      have HBOX := Lib.hid hbox
      have hbxb := hbm.lt
      have hszb : w.heap.size + 2 ≤ wb.heap.size := by have := hgb.size; omega
      clear hbm hgw hPb hrest hbox hgb hci hfi
      have hxx : start P d i x = (if m + 1 = o then byF (timesF P d) P.n (P.pow i) ((bump x i).set i 0) else bump x i) := by unfold start; rw [HM.out, HO.out]
      have HXG := Lib.hid hxx
      clear hxx
      by_cases hmo : m + 1 = o
      · have d1 : (m + 1 == o) = true := by simpa using hmo
        have HMO := Lib.hid hmo
        clear hmo
        have HNB := Lib.hid (NV_bump0 hv HX.out hi)
        go_wp2_with fail
        go_quiet (fail)
        have hst := (HBM.out.set (k := i) (by rw [length_bump, HXL.out]; exact hi) 0)
        have hxs0 : XsAt ((wb.drewN nq).setCell ⟨bx, i, none⟩ (.int .i64 0)) bx ((bump x i).set i 0) := (XsAt.keep (w' := wb.drewN nq) HBM.out rfl).set (by rw [length_bump, HXL.out]; exact hi) 0
        have hg0 : wb.grownBy ((wb.drewN nq).setCell ⟨bx, i, none⟩ (.int .i64 0)) (some bx) := only_setCell (only_drewN (World.grownBy.refl wb _) nq) (.inl rfl) _
        have hP0 := HPB.out.grown hg0 hn0 hbxb
        have hb0 := (hg0.block w.heap.size (by omega) (fun e => by have := Option.some.inj e; omega)).trans HBOX.out
        obtain ⟨bp, op_, up, rfl, hcp, hIp⟩ := pow_cell hv hP0.at_ hi
        have hk1 : ((wb.drewN nq).setCell ⟨bx, i, none⟩ (.int .i64 0)).cell? ⟨w.heap.size, 1, none⟩ = some (.slice (some ⟨bp, op_, none⟩) P.powers.length c1) := by rw [cell_of_row _ _ _ _ _ _ hb0]; rfl
        have HX0 := Lib.hid hxs0
        have HG0 := Lib.hid hg0
        have HP0 := Lib.hid hP0
        have HB0 := Lib.hid hb0
        have HIP := Lib.hid hIp
        clear hst hxs0 hg0 hP0 hb0 hIp
        go_wp2_with fail
        generalize (wb.drewN nq).setCell ⟨bx, i, none⟩ (.int .i64 0) = ws at *
        have hk0' : ws.cell? ⟨w.heap.size, 0, none⟩ = some (.slice (some ⟨bo, oo, none⟩) P.orders.length c0) := by rw [cell_of_row _ _ _ _ _ _ HB0.out]; rfl
        have hk2' : ws.cell? ⟨w.heap.size, 2, none⟩ = some (.slice A2 P.conj.length c2) := by rw [cell_of_row _ _ _ _ _ _ HB0.out]; rfl
        go_still_tail 7, (by kernel_rfl)
        change wpList _ _ _ _ _ ws.drew
        obtain ⟨wd, hwd⟩ : ∃ wd, wd = ws.drew := ⟨_, rfl⟩
        have hkd : ∀ k, k < ws.heap.size → wd.heap[k]? = ws.heap[k]? := fun _ _ => by rw [hwd]; rfl
        have hXd := HX0.out.keep (w' := wd) (by rw [hwd]; rfl)
        have hPd := HP0.out.keep (w' := wd) (fun _ _ => by rw [hwd]; rfl)
        have hId : IntsAt wd up (P.pow i) := kept_ints _ _ _ _ hkd HIP.out
        have hgd : wb.grownBy wd (some bx) := by rw [hwd]; exact only_drew HG0.out
        rw [← hwd]
        have HKC := Lib.hid (HB'.out wd n₀ bx cap _ _ _ up _ (P.pow i) hPd hn0 hXd hcap hmax HNB.out hId (hv.pow i hi).1 (norm_pow hv (hv.pow i hi) hd))
        have HGD := Lib.hid hgd
        clear hkd hXd hPd hId hgd hwd hk0' hk2' hk1 hcp
        go_wp2_with (go_at_call 78; (refine HKC.out.mono ?_); rintro e wl ⟨rfl, hcl, hgl⟩; have HXL2 := Lib.hid hcl; have HGL2 := Lib.hid (HGD.out.trans hgl); clear hcl hgl)
        have HNL := Lib.hid (byF_NV hv d (P.pow i) _ HNB.out)
        have HXG2 := Lib.hid (HXG.out.trans (if_pos HMO.out))
        generalize byF (timesF P d) P.n (P.pow i) ((bump x i).set i 0) = x2 at *
        have HGL := Lib.hid (HGB.out.trans HGL2.out)
        have HRL := Lib.hid (HREST.out.grown HGL2.out (fun e => hb'x (Option.some.inj e)))
        have HPL := Lib.hid (HPB.out.grown HGL2.out hn0 hbxb)
        have HBL := Lib.hid ((HGL2.out.block w.heap.size (by omega) (fun e => by have := Option.some.inj e; omega)).trans HBOX.out)
        have hsl : w.heap.size + 2 ≤ wl.heap.size := by have := HGL2.out.size; omega
        have hbxl := HXL2.out.lt
        clear hk0 hcb hfb hco
        go_wp2_with fail
        go_loopw [8] (fun s8 wr => ∃ j : Nat, i + 1 ≤ j ∧ j ≤ P.n ∧ s8 = .int .i64 j ∧ XsAt wr bx (foldTo (fun t x' => iter (byF (timesF P d) P.n (P.cj (i + 1 + t) i)) (x.getD (i + 1 + t) 0).toNat x') (j - (i + 1)) x2) ∧ wl.grownBy wr (some bx)) (fun s8 _ => P.n - (intOf s8).toNat)
        case atStart => exact ⟨i + 1, Nat.le_refl _, by omega, by go_num, by simpa [foldTo] using HXL2.out, World.grownBy.refl _ _⟩
        case round =>
          obtain ⟨j, hj1, hj2, rfl, hcj, hgj⟩ := hrel
          have HGJ := Lib.hid hgj
          by_cases hlt : j < P.n
          · have hxj := HX.out.2 j hlt
            have hoj := hv.ord2 j hlt
            have hRj := (HRL.out.grown hgj (fun e => hb'x (Option.some.inj e))).cell (k := j) (by rw [HXL.out]; exact hlt)
            have hj0 : (0 : Int) ≤ (j : Int) := Int.natCast_nonneg _
            have hjn : (j : Int) < (P.n : Int) := by omega
            have hjc : (j : Int) < (P.conj.length : Int) := by rw [hv.ncj]; exact hjn
            have hij : (i : Int) < (j : Int) := by omega
            have hnj : NV P (foldTo (fun t x' => iter (byF (timesF P d) P.n (P.cj (i + 1 + t) i)) (x.getD (i + 1 + t) 0).toNat x') (j - (i + 1)) x2) :=
              foldTo_inv _ (fun t z _ hz => iter_inv (fun z hz => byF_NV hv d _ z hz) _ _ hz) _ HNL.out
            have hfs : foldTo (fun t x' => iter (byF (timesF P d) P.n (P.cj (i + 1 + t) i)) (x.getD (i + 1 + t) 0).toNat x') (j + 1 - (i + 1)) x2 =
                iter (byF (timesF P d) P.n (P.cj j i)) (x.getD j 0).toNat (foldTo (fun t x' => iter (byF (timesF P d) P.n (P.cj (i + 1 + t) i)) (x.getD (i + 1 + t) 0).toNat x') (j - (i + 1)) x2) := by
              rw [show j + 1 - (i + 1) = (j - (i + 1)) + 1 by omega, foldTo, show i + 1 + (j - (i + 1)) = j by omega]
            generalize hmj : x.getD j 0 = mj at *
            obtain ⟨mj', rfl⟩ := Int.eq_ofNat_of_zero_le hxj.1
            rw [Int.toNat_natCast] at hfs
            have hm1 : mj' ≤ 1000 := by omega
            have HF := Lib.hid hfs
            generalize foldTo (fun t x' => iter (byF (timesF P d) P.n (P.cj (i + 1 + t) i)) (x.getD (i + 1 + t) 0).toNat x') (j - (i + 1)) x2 = xj at *
            have HNJ := Lib.hid hnj
            have HCJ := Lib.hid hcj
            have HMJ := Lib.hid hmj
            clear hmj hfs hnj hcj hxj hoj hgj
            go_wp2_with fail
            obtain ⟨wo, rfl⟩ : ∃ wo, wo = wr := ⟨_, rfl⟩
            have hbxo := HCJ.out.lt
            go_loopw [9] (fun s wr => ∃ q : Nat, q ≤ mj' ∧ s = .int .i64 q ∧ XsAt wr bx (iter (byF (timesF P d) P.n (P.cj j i)) q xj) ∧ wo.grownBy wr (some bx)) (fun s _ => mj' - (intOf s).toNat)
            case atStart => exact ⟨0, Nat.zero_le _, rfl, HCJ.out, World.grownBy.refl _ _⟩
            case round =>
              obtain ⟨q, hq, rfl, hcq, hgq⟩ := hrel
              have hnq : NV P (iter (byF (timesF P d) P.n (P.cj j i)) q xj) := iter_inv (fun z hz => byF_NV hv d _ z hz) _ _ HNJ.out
              have hglq : wl.grownBy wr (some bx) := HGJ.out.trans hgq
              have hRq : wr.cell? ⟨b', j, none⟩ = some (.int .i64 (mj' : Int)) := by
                have := (HRL.out.grown hglq (fun e => hb'x (Option.some.inj e))).cell (k := j) (by rw [HXL.out]; exact hlt)
                rwa [HMJ.out] at this
              have hPq := HPL.out.grown hglq hn0 hbxl
              have hbq := (hglq.block w.heap.size (by omega) (fun e => by have := Option.some.inj e; omega)).trans HBL.out
              have HCQ := Lib.hid hcq
              have HNQ := Lib.hid hnq
              have HGQ := Lib.hid hgq
              have hbxq := hcq.lt
              clear hRj hcq hnq hgq hglq
              by_cases hql : q < mj'
              · obtain ⟨b2, o2, b3, o3, cc, uc, rfl, hu1, hcc1, hcc2, hu2, hIc⟩ := conj_cell hv hPq.at_ hlt (show i < j by omega)
                have hq0 : wr.cell? ⟨w.heap.size, 0, none⟩ = some (.slice (some ⟨bo, oo, none⟩) P.orders.length c0) := by rw [cell_of_row _ _ _ _ _ _ hbq]; rfl
                have hq1 : wr.cell? ⟨w.heap.size, 1, none⟩ = some (.slice (some ⟨bp, op_, none⟩) P.powers.length c1) := by rw [cell_of_row _ _ _ _ _ _ hbq]; rfl
                have hq2 : wr.cell? ⟨w.heap.size, 2, none⟩ = some (.slice (some ⟨b2, o2, none⟩) P.conj.length c2) := by rw [cell_of_row _ _ _ _ _ _ hbq]; rfl
                have HIC := Lib.hid hIc
                have HPQ := Lib.hid hPq
                clear hIc hPq hbq
                go_wp2_with fail
                go_still_tail 10, (by kernel_rfl)
                change wpList _ _ _ _ _ wr.drew
                obtain ⟨wd, hwd⟩ : ∃ wd, wd = wr.drew := ⟨_, rfl⟩
                have hkd : ∀ k, k < wr.heap.size → wd.heap[k]? = wr.heap[k]? := fun _ _ => by rw [hwd]; rfl
                have hXd := HCQ.out.keep (w' := wd) (by rw [hwd]; rfl)
                have hPd := HPQ.out.keep (w' := wd) (fun _ _ => by rw [hwd]; rfl)
                have hId : IntsAt wd uc (P.cj j i) := kept_ints _ _ _ _ hkd HIC.out
                have hgd : wr.grownBy wd (some bx) := by rw [hwd]; exact only_drew (World.grownBy.refl _ _)
                rw [← hwd]
                have HKC := Lib.hid (HB'.out wd n₀ bx cap _ _ _ uc _ (P.cj j i) hPd hn0 hXd hcap hmax HNQ.out hId (hv.cj j hlt i (by omega)).1 (norm_pow hv (hv.cj j hlt i (by omega)) hd))
                have HGD := Lib.hid hgd
                clear hkd hXd hPd hId hgd hwd
                go_wp2_with (go_at_call 78; (refine HKC.out.mono ?_); rintro e w5 ⟨rfl, hc5, hg5⟩; have HC5 := Lib.hid hc5; have HG5 := Lib.hid ((HGQ.out.trans HGD.out).trans hg5); clear hc5 hg5)
                go_roundw
                case rel => exact ⟨q + 1, by omega, by go_num, HC5.out, HG5.out⟩
                case measure => simp [intOf]; omega
              · obtain rfl : q = mj' := by omega
                clear hPq hbq
                go_wp2_with fail
                go_roundw
                case rel => exact ⟨j + 1, by omega, by omega, by go_num, by (rw [HF.out]; exact HCQ.out), HGJ.out.trans HGQ.out⟩
                case measure => simp [intOf]; omega
          · obtain rfl : j = P.n := by omega
            go_wp2_with fail
            go_end0
            refine ⟨rfl, ?_, HGL.out.trans hgj⟩
            show XsAt _ _ (foldTo _ _ (start P d i x))
            rw [HXG2.out]
            exact hcj
      · have d1 : (m + 1 == o) = false := by simpa using hmo
        have HMO := Lib.hid hmo
        clear hmo
        have HNL := Lib.hid (NV_bump hv HX.out hi (by rw [HM.out, HO.out]; exact HMO.out))
        have HXG2 := Lib.hid (HXG.out.trans (if_neg HMO.out))
        go_wp2_with fail
        go_quiet (fail)
        obtain ⟨wl, hwl⟩ : ∃ wl, wl = wb.drewN nq := ⟨_, rfl⟩
        have HXL2 := Lib.hid (HBM.out.keep (w' := wl) (by rw [hwl]; rfl))
        have HGL2 : Hid (wb.grownBy wl (some bx)) := Lib.hid (by rw [hwl]; exact only_drewN (World.grownBy.refl wb _) nq)
        rw [← hwl]
        generalize bump x i = x2 at *
        clear hwl
        have HGL := Lib.hid (HGB.out.trans HGL2.out)
        have HRL := Lib.hid (HREST.out.grown HGL2.out (fun e => hb'x (Option.some.inj e)))
        have HPL := Lib.hid (HPB.out.grown HGL2.out hn0 hbxb)
        have HBL := Lib.hid ((HGL2.out.block w.heap.size (by omega) (fun e => by have := Option.some.inj e; omega)).trans HBOX.out)
        have hsl : w.heap.size + 2 ≤ wl.heap.size := by have := HGL2.out.size; omega
        have hbxl := HXL2.out.lt
        clear hk0 hcb hfb hco
        go_wp2_with fail
        go_loopw [8] (fun s8 wr => ∃ j : Nat, i + 1 ≤ j ∧ j ≤ P.n ∧ s8 = .int .i64 j ∧ XsAt wr bx (foldTo (fun t x' => iter (byF (timesF P d) P.n (P.cj (i + 1 + t) i)) (x.getD (i + 1 + t) 0).toNat x') (j - (i + 1)) x2) ∧ wl.grownBy wr (some bx)) (fun s8 _ => P.n - (intOf s8).toNat)
        case atStart => exact ⟨i + 1, Nat.le_refl _, by omega, by go_num, by simpa [foldTo] using HXL2.out, World.grownBy.refl _ _⟩
        case round =>
          obtain ⟨j, hj1, hj2, rfl, hcj, hgj⟩ := hrel
          have HGJ := Lib.hid hgj
          by_cases hlt : j < P.n
          · have hxj := HX.out.2 j hlt
            have hoj := hv.ord2 j hlt
            have hRj := (HRL.out.grown hgj (fun e => hb'x (Option.some.inj e))).cell (k := j) (by rw [HXL.out]; exact hlt)
            have hj0 : (0 : Int) ≤ (j : Int) := Int.natCast_nonneg _
            have hjn : (j : Int) < (P.n : Int) := by omega
            have hjc : (j : Int) < (P.conj.length : Int) := by rw [hv.ncj]; exact hjn
            have hij : (i : Int) < (j : Int) := by omega
            have hnj : NV P (foldTo (fun t x' => iter (byF (timesF P d) P.n (P.cj (i + 1 + t) i)) (x.getD (i + 1 + t) 0).toNat x') (j - (i + 1)) x2) :=
              foldTo_inv _ (fun t z _ hz => iter_inv (fun z hz => byF_NV hv d _ z hz) _ _ hz) _ HNL.out
            have hfs : foldTo (fun t x' => iter (byF (timesF P d) P.n (P.cj (i + 1 + t) i)) (x.getD (i + 1 + t) 0).toNat x') (j + 1 - (i + 1)) x2 =
                iter (byF (timesF P d) P.n (P.cj j i)) (x.getD j 0).toNat (foldTo (fun t x' => iter (byF (timesF P d) P.n (P.cj (i + 1 + t) i)) (x.getD (i + 1 + t) 0).toNat x') (j - (i + 1)) x2) := by
              rw [show j + 1 - (i + 1) = (j - (i + 1)) + 1 by omega, foldTo, show i + 1 + (j - (i + 1)) = j by omega]
            generalize hmj : x.getD j 0 = mj at *
            obtain ⟨mj', rfl⟩ := Int.eq_ofNat_of_zero_le hxj.1
            rw [Int.toNat_natCast] at hfs
            have hm1 : mj' ≤ 1000 := by omega
            have HF := Lib.hid hfs
            generalize foldTo (fun t x' => iter (byF (timesF P d) P.n (P.cj (i + 1 + t) i)) (x.getD (i + 1 + t) 0).toNat x') (j - (i + 1)) x2 = xj at *
            have HNJ := Lib.hid hnj
            have HCJ := Lib.hid hcj
            have HMJ := Lib.hid hmj
            clear hmj hfs hnj hcj hxj hoj hgj
            go_wp2_with fail
            obtain ⟨wo, rfl⟩ : ∃ wo, wo = wr := ⟨_, rfl⟩
            have hbxo := HCJ.out.lt
            go_loopw [9] (fun s wr => ∃ q : Nat, q ≤ mj' ∧ s = .int .i64 q ∧ XsAt wr bx (iter (byF (timesF P d) P.n (P.cj j i)) q xj) ∧ wo.grownBy wr (some bx)) (fun s _ => mj' - (intOf s).toNat)
            case atStart => exact ⟨0, Nat.zero_le _, rfl, HCJ.out, World.grownBy.refl _ _⟩
            case round =>
              obtain ⟨q, hq, rfl, hcq, hgq⟩ := hrel
              have hnq : NV P (iter (byF (timesF P d) P.n (P.cj j i)) q xj) := iter_inv (fun z hz => byF_NV hv d _ z hz) _ _ HNJ.out
              have hglq : wl.grownBy wr (some bx) := HGJ.out.trans hgq
              have hRq : wr.cell? ⟨b', j, none⟩ = some (.int .i64 (mj' : Int)) := by
                have := (HRL.out.grown hglq (fun e => hb'x (Option.some.inj e))).cell (k := j) (by rw [HXL.out]; exact hlt)
                rwa [HMJ.out] at this
              have hPq := HPL.out.grown hglq hn0 hbxl
              have hbq := (hglq.block w.heap.size (by omega) (fun e => by have := Option.some.inj e; omega)).trans HBL.out
              have HCQ := Lib.hid hcq
              have HNQ := Lib.hid hnq
              have HGQ := Lib.hid hgq
              have hbxq := hcq.lt
              clear hRj hcq hnq hgq hglq
              by_cases hql : q < mj'
              · obtain ⟨b2, o2, b3, o3, cc, uc, rfl, hu1, hcc1, hcc2, hu2, hIc⟩ := conj_cell hv hPq.at_ hlt (show i < j by omega)
                have hq0 : wr.cell? ⟨w.heap.size, 0, none⟩ = some (.slice (some ⟨bo, oo, none⟩) P.orders.length c0) := by rw [cell_of_row _ _ _ _ _ _ hbq]; rfl
                have hq1 : wr.cell? ⟨w.heap.size, 1, none⟩ = some (.slice A1 P.powers.length c1) := by rw [cell_of_row _ _ _ _ _ _ hbq]; rfl
                have hq2 : wr.cell? ⟨w.heap.size, 2, none⟩ = some (.slice (some ⟨b2, o2, none⟩) P.conj.length c2) := by rw [cell_of_row _ _ _ _ _ _ hbq]; rfl
                have HIC := Lib.hid hIc
                have HPQ := Lib.hid hPq
                clear hIc hPq hbq
                go_wp2_with fail
                go_still_tail 10, (by kernel_rfl)
                change wpList _ _ _ _ _ wr.drew
                obtain ⟨wd, hwd⟩ : ∃ wd, wd = wr.drew := ⟨_, rfl⟩
                have hkd : ∀ k, k < wr.heap.size → wd.heap[k]? = wr.heap[k]? := fun _ _ => by rw [hwd]; rfl
                have hXd := HCQ.out.keep (w' := wd) (by rw [hwd]; rfl)
                have hPd := HPQ.out.keep (w' := wd) (fun _ _ => by rw [hwd]; rfl)
                have hId : IntsAt wd uc (P.cj j i) := kept_ints _ _ _ _ hkd HIC.out
                have hgd : wr.grownBy wd (some bx) := by rw [hwd]; exact only_drew (World.grownBy.refl _ _)
                rw [← hwd]
                have HKC := Lib.hid (HB'.out wd n₀ bx cap _ _ _ uc _ (P.cj j i) hPd hn0 hXd hcap hmax HNQ.out hId (hv.cj j hlt i (by omega)).1 (norm_pow hv (hv.cj j hlt i (by omega)) hd))
                have HGD := Lib.hid hgd
                clear hkd hXd hPd hId hgd hwd
                go_wp2_with (go_at_call 78; (refine HKC.out.mono ?_); rintro e w5 ⟨rfl, hc5, hg5⟩; have HC5 := Lib.hid hc5; have HG5 := Lib.hid ((HGQ.out.trans HGD.out).trans hg5); clear hc5 hg5)
                go_roundw
                case rel => exact ⟨q + 1, by omega, by go_num, HC5.out, HG5.out⟩
                case measure => simp [intOf]; omega
              · obtain rfl : q = mj' := by omega
                clear hPq hbq
                go_wp2_with fail
                go_roundw
                case rel => exact ⟨j + 1, by omega, by omega, by go_num, by (rw [HF.out]; exact HCQ.out), HGJ.out.trans HGQ.out⟩
                case measure => simp [intOf]; omega
          · obtain rfl : j = P.n := by omega
            go_wp2_with fail
            go_end0
            refine ⟨rfl, ?_, HGL.out.trans hgj⟩
            show XsAt _ _ (foldTo _ _ (start P d i x))
            rw [HXG2.out]
            exact hcj

theorem rtimes_ok {P : PcD} (hv : Valid P) : ∀ d, RTimesOk P d
  | 0 => fun w n₀ bx cap v0 v1 v2 x i _ _ _ _ _ _ hi hd => absurd hd (by omega)
  | d + 1 => rtimes_of_by hv (rby_of_times hv (rtimes_ok hv d))
theorem rby_ok {P : PcD} (hv : Valid P) (d : Nat) : RByOk P d := rby_of_times hv (rtimes_ok hv d)
end Go.Proofs
namespace Go.Proofs
open Go.RowKit Go.Proofs.Pc

theorem made3 (n : Nat) : madeCells (Value.int .i64 0).cells n = Array.replicate n (.int .i64 0) := by
  apply Array.ext_getElem?
  intro k
  simp only [madeCells, Value.cells, Array.getElem?_map, Array.getElem?_range, Array.getElem?_replicate]
  by_cases h : k < n
  · simp [h, Nat.mod_one]
  · simp [h]
theorem make22 (w : World) (n : Nat) (hn : n ≤ 1000) : (Instr.makeSlice 22 (.int .i64 (n : Int)) (.int .i64 (n : Int))).run Try.prog w =
    .ok (.slice (some ⟨w.heap.size, 0, none⟩) n n) (w.alloc (.cells (Array.replicate n (.int .i64 0)) 3)) := by
  obtain ⟨i, hi, hz, hs, hb⟩ := info3p
  have := run_makeSlice (P := Try.prog) w 22 3 i (.int .i64 0) Try.underlying22 hi hz .i64 .i64 n n (by omega) (Int.le_refl _) (by rw [hs]; simp; omega) (by rw [hb]; omega) (by omega)
  rw [this, hs, Int.toNat_natCast, Nat.mul_one, made3]
theorem xsAt_zero (w : World) (n : Nat) : XsAt (w.alloc (.cells (Array.replicate n (.int .i64 0)) 3)) w.heap.size (List.replicate n 0) :=
  ⟨_, heap_alloc_new w _, by simp, fun k hk => by
    have hk' : k < n := by simpa using hk
    simp [hk']⟩
theorem getD_rep (n k : Nat) : (List.replicate n (0 : Int)).getD k 0 = 0 := by
  rw [List.getD_eq_getElem?_getD, List.getElem?_replicate]; split <;> rfl
theorem xsAt_unit {P : PcD} {w : World} {b i : Nat} {e : Int} (h : XsAt w b (List.replicate P.n 0)) (hi : i < P.n) : XsAt (w.setCell ⟨b, i, none⟩ (.int .i64 e)) b (uP P i e) :=
  (h.set (k := i) (by simpa using hi) e).congr (by simp [uP]) fun k hk => by
    have hk' : k < P.n := by simpa using hk
    rw [getD_set, getD_rep, getD_uP]
    by_cases h2 : i = k
    · subst h2; simp [hi]
    · rw [if_neg (fun hh => h2 hh.1), if_neg (fun hh => h2 hh.1.symm)]

/-- v reads as x, in a block b of the call's own, from n₀ on -/
def XsOut (n₀ : Nat) (P : PcD) (w : World) (x : List Int) (v : Value) (w' : World) : Prop := ∃ b cap, v = .slice (some ⟨b, 0, none⟩) P.n cap ∧ XsAt w' b x ∧ n₀ ≤ b ∧ P.n ≤ cap ∧ cap ≤ 9223372036854775807 ∧ Below w.heap.size w w'
theorem XsOut.ints {n₀ : Nat} {P : PcD} {w w' : World} {x : List Int} {v : Value} (h : XsOut n₀ P w x v w') (hv : Valid P) (hx : NV P x) : IntsAt w' v x := by
  obtain ⟨b, cap, rfl, h1, -, h2, h3, -⟩ := h
  exact h1.ints hx.1 h2 h3 (Pc.NV.fits hv hx)

set_option maxRecDepth 100000 in
set_option maxHeartbeats 400000 in
theorem unitRef_any {P : PcD} (hv : Valid P) (w : World) (v0 v1 v2 : Value) (hP : PcAt w v0 v1 v2 P) (i : Nat) (hi : i < P.n) :
    Calls Try.prog 50 #[.agg #[v0, v1, v2], .int .i64 i] w fun e w' => ∃ v, e = .returned v ∧ XsOut w.heap.size P w (uP P i 1) v w' := by
  have h12 := hv.n12
  obtain ⟨⟨A0, c0, rfl⟩, ⟨A1, c1, rfl⟩, A2, c2, rfl⟩ := pc_slices hP
  have hmk := make22 (w.alloc (.cells #[.slice A0 P.orders.length c0, .slice A1 P.powers.length c1, .slice A2 P.conj.length c2] 26)) P.orders.length (by have : P.n = P.orders.length := rfl; omega)
  have hz := xsAt_zero (w.alloc (.cells #[.slice A0 P.orders.length c0, .slice A1 P.powers.length c1, .slice A2 P.conj.length c2] 26)) P.orders.length
  have hc := hz.cell (k := i) (by rw [List.length_replicate]; exact hi)
  have hf := hz.frozen i
  have hx := xsAt_unit (P := P) (e := 1) hz hi
  rw [World.size_alloc] at hmk hz hc hf hx
  have hb : Below w.heap.size w ((w.alloc (.cells #[.slice A0 P.orders.length c0, .slice A1 P.powers.length c1, .slice A2 P.conj.length c2] 26)).alloc (.cells (Array.replicate P.orders.length (.int .i64 0)) 3)) := allocs_below [_, _] w _ (Nat.le_refl _)
  have hi0 : (0 : Int) ≤ (i : Int) := Int.natCast_nonneg _
  have hi1 : (i : Int) < (P.orders.length : Int) := by have : P.n = P.orders.length := rfl; omega
  have HX := Lib.hid hx
  have HB := Lib.hid hb
  clear hP hz hx hb
  generalize hW : (w.alloc (.cells #[.slice A0 P.orders.length c0, .slice A1 P.powers.length c1, .slice A2 P.conj.length c2] 26)).alloc (.cells (Array.replicate P.orders.length (.int .i64 0)) 3) = W at *
  go_enter Try.func50, Try.ntmps50
  go_wp2_with fail
  go_ret
  exact ⟨_, rfl, _, _, rfl, HX.out, Nat.le_succ _, Nat.le_refl _, by have : P.n = P.orders.length := rfl; omega, HB.out.setCell (p := ⟨w.heap.size + 1, i, none⟩) (Nat.le_succ _) _⟩

set_option maxRecDepth 100000 in
set_option maxHeartbeats 400000 in
theorem product_any {P : PcD} (hv : Valid P) (w : World) (v0 v1 v2 xv yv : Value) (x y : List Int) (hP : PcAt w v0 v1 v2 P) (hxv : IntsAt w xv x) (hyv : IntsAt w yv y) (hx : NV P x) (hy : NV P y) :
    Calls Try.prog 49 #[.agg #[v0, v1, v2], xv, yv] w fun e w' => ∃ v, e = .returned v ∧ XsOut w.heap.size P w (mulP P x y) v w' := by
  have h12 := hv.n12
  have hxl := hx.1
  obtain ⟨⟨A0, c0, rfl⟩, ⟨A1, c1, rfl⟩, A2, c2, rfl⟩ := pc_slices hP
  obtain ⟨W, hW⟩ : ∃ W, W = (w.alloc (.cells #[.slice A0 P.orders.length c0, .slice A1 P.powers.length c1, .slice A2 P.conj.length c2] 26)).alloc (.cells #[] 3) := ⟨_, rfl⟩
  have hBW : Below w.heap.size w W := by rw [hW]; exact allocs_below [_, _] w _ (Nat.le_refl _)
  have hWb : W.heap[w.heap.size]? = some (.cells #[.slice A0 P.orders.length c0, .slice A1 P.powers.length c1, .slice A2 P.conj.length c2] 26 (0, 0)) := by rw [hW]; exact allocs_get [_, Obj.cells #[] 3] w 0 _ rfl
  have hWe : W.heap[w.heap.size + 1]? = some (.cells #[] 3 (0, 0)) := by rw [hW]; exact allocs_get [Obj.cells _ 26, _] w 1 _ rfl
  have hWs : W.heap.size = w.heap.size + 2 := by rw [hW]; simp
  obtain ⟨b', cap', w3, hr, hb3, hy3, hc3, hm3, hb'⟩ := run_copy hWe (hxv.below hBW) (by rw [hxl]; omega)
  have h3b : w3.heap[w.heap.size]? = some (.cells #[.slice A0 P.orders.length c0, .slice A1 P.powers.length c1, .slice A2 P.conj.length c2] 26 (0, 0)) := (hb3.block _ (by omega)).trans hWb
  have hBw3 : Below w.heap.size w w3 := hBW.trans (hb3.mono hBW.size)
  have hbb : w.heap.size ≤ b' := by omega
  rw [hxl] at hr hc3
  rw [hW] at hr
  have HR := Lib.hid hr
  have HK := Lib.hid (rby_ok hv P.n w3 w.heap.size b' cap' _ _ _ yv x y ((hP.pcB).below hBw3 (Nat.le_refl _)) hbb hy3 hc3 hm3 hx (hyv.below hBw3) hy.1 (Pc.NV.small hv hy))
  have HB3 := Lib.hid hBw3
  obtain ⟨Av, cv, rfl, -⟩ := hyv.open_
  clear hr hP hxv hyv hy3 hWb hWe hW hWs hb3 hBW hBw3 hb' hxl
  go_enter Try.func49, Try.ntmps49
  go_wp2_with (first
    | ((with_reducible refine wpList_sel 10 ?_); refine wpList_val rfl (r_app (.tmp 8) (.tmp 9) 22 rfl rfl rfl HR.out) ?_)
    | ((with_reducible refine wpList_sel 11 ?_); refine wpList_val rfl (r_load26 (.tmp 3) w.heap.size _ _ _ rfl rfl h3b) ?_)
    | (go_at_call 78; (refine HK.out.mono ?_); rintro e w5 ⟨rfl, hc5, hg5⟩))
  go_ret
  exact ⟨_, rfl, b', cap', rfl, hc5, hbb, hc3, hm3, HB3.out.grown hg5 HB3.out.size (fun k e => by cases e; exact hbb)⟩

set_option maxRecDepth 100000 in
set_option maxHeartbeats 400000 in
theorem equalRef_any (w : World) (va vb : Value) (x y : List Int) (ha : IntsAt w va x) (hb : IntsAt w vb y) (hl : x.length = y.length) :
    Calls Try.prog 51 #[va, vb] w fun e w' => e = .returned (.bool (decide (x = y))) ∧ ∃ q, w' = w.drewN q := by
  obtain ⟨A3, c3, rfl, hd1, hd2, hd⟩ := ha.open_
  obtain ⟨A4, c4, rfl, he1, he2, he⟩ := hb.open_
  have HD := Lib.hid hd
  have HE := Lib.hid he
  have d3 : ((x.length : Int) == (y.length : Int)) = true := by simp; omega
  have d4 : (x.length == y.length) = true := by simp; omega
  have HX := Lib.hid hl
  clear hd he ha hb hl
  go_enter Try.func51, Try.ntmps51
  go_wp2_with fail
  go_loopw [5] (fun i wr => ∃ j : Nat, j ≤ x.length ∧ i = .int .i64 j ∧ (∀ t, t < j → x.getD t 0 = y.getD t 0) ∧ ∃ q, wr = w.drewN q) (fun i _ => x.length - (intOf i).toNat)
  case atStart => exact ⟨0, Nat.zero_le _, rfl, fun j hj => absurd hj (by omega), 0, rfl⟩
  case round =>
    obtain ⟨j, hj, rfl, hzj, qj, rfl⟩ := hrel
    have HZJ := Lib.hid hzj
    clear hzj
    by_cases hjl : j < x.length
    · obtain ⟨b3, o3, rfl, hx⟩ := HD.out (by omega)
      obtain ⟨b4, o4, rfl, hy⟩ := HE.out (by rw [← HX.out]; omega)
      have hx1 := hx j hjl
      have hy1 := hy j (by rw [← HX.out]; omega)
      have hj0 : (0 : Int) ≤ (j : Int) := Int.natCast_nonneg _
      have hjb : (j : Int) < (y.length : Int) := by rw [← HX.out]; omega
      have hja : (j : Int) < (x.length : Int) := by omega
      have HM := Lib.hid (fun h => getD_ne (A := x) (B := y) (d := 0) (k := j) h)
      clear hx hy
      generalize hse : x.getD j 0 = s at *
      generalize hte : y.getD j 0 = t at *
      have HSE := Lib.hid hse
      have HTE := Lib.hid hte
      clear hse hte
      by_cases hst : s = t
      · have d5 : (s != t) = false := by simpa using hst
        have HS := Lib.hid hst
        clear hst
        go_wp2_with fail
        go_quiet (fail)
        go_wp2_with fail
        go_roundw
        case rel => exact ⟨j + 1, by omega, by go_num, all_succ HZJ.out (by rw [HSE.out, HTE.out]; exact HS.out), (by first | exact ⟨_, rfl⟩ | exact ex_drewN)⟩
        case measure => simp [intOf]; omega
      · have d5 : (s != t) = true := by simpa using hst
        have HS := Lib.hid hst
        clear hst
        go_wp2_with fail
        go_quiet (fail)
        go_wp2_with fail
        go_ret
        exact ⟨ret_bool (by simpa using HM.out HS.out), (by first | exact ⟨_, rfl⟩ | exact ex_drewN)⟩
    · obtain rfl : j = x.length := by omega
      go_wp2_with fail
      go_ret
      exact ⟨ret_bool (by simpa using getD_ext HX.out HZJ.out), (by first | exact ⟨_, rfl⟩ | exact ex_drewN)⟩
end Go.Proofs
namespace Go.Proofs
open Go.Shelf
def Try.lays264_ren : Go.Shelf.Ren := ⟨fun | 264 => 89 | n => n, fun | 53 => 130 | 46 => 122 | n => n, fun | n => n⟩
theorem Try.lays264 : Go.Proofs.Lays.n264 Try.prog Try.lays264_ren := {
  mixed := by kernel_rfl
  f264 := Try.func89.trans (congrArg some (by kernel_rfl))
  t46 := Try.underlying122
  a46 := Try.isAgg122
  z46 := Try.sizeOf122
  v46 := Try.zeroValue122
  t53 := Try.underlying130
  a53 := Try.isAgg130
  z53 := Try.sizeOf130
  v53 := Try.zeroValue130 }
def Try.lays212_ren : Go.Shelf.Ren := ⟨fun | 212 => 86 | 263 => 88 | 264 => 89 | n => n, fun | 46 => 122 | 51 => 127 | 146 => 128 | 53 => 130 | 148 => 131 | n => n, fun | n => n⟩
theorem Try.lays212 : Go.Proofs.Lays.n212 Try.prog Try.lays212_ren := {
  mixed := by kernel_rfl
  f212 := Try.func86.trans (congrArg some (by kernel_rfl))
  f263 := Try.func88.trans (congrArg some (by kernel_rfl))
  f264 := Try.func89.trans (congrArg some (by kernel_rfl))
  t46 := Try.underlying122
  a46 := Try.isAgg122
  z46 := Try.sizeOf122
  v46 := Try.zeroValue122
  t51 := Try.underlying127
  a51 := Try.isAgg127
  z51 := Try.sizeOf127
  v51 := Try.zeroValue127
  t53 := Try.underlying130
  a53 := Try.isAgg130
  z53 := Try.sizeOf130
  v53 := Try.zeroValue130
  t146 := Try.underlying128
  a146 := Try.isAgg128
  z146 := Try.sizeOf128
  v146 := Try.zeroValue128
  t148 := Try.underlying131
  a148 := Try.isAgg131
  z148 := Try.sizeOf131
  v148 := Try.zeroValue131 }
end Go.Proofs
namespace Go.Proofs
open Go.RowKit Go.Proofs.Pc Go.Shelf

/-- k letters x, then noughts, c in all -/
def rp (x : Int) (k c : Nat) : List Value := List.replicate k (.int .i64 x) ++ List.replicate (c - k) (.int .i64 0)
theorem length_rp (x : Int) {k c : Nat} (h : k ≤ c) : (rp x k c).length = c := by simp [rp]; omega
theorem rp_get (x : Int) {k c j : Nat} (_h : k ≤ c) (hj : j < c) : (rp x k c)[j]? = some (.int .i64 (if j < k then x else 0)) := by
  unfold rp
  rw [List.getElem?_append]
  simp only [List.length_replicate, List.getElem?_replicate]
  by_cases h1 : j < k
  · simp [h1]
  · simp [h1]; omega
theorem rp_step (x : Int) {k m c : Nat} (h : k + m ≤ c) : (rp x k c).take k ++ List.replicate m (.int .i64 x) ++ (rp x k c).drop (k + m) = rp x (k + m) c := by
  have h1 : (rp x k c).take k = List.replicate k (.int .i64 x) := by
    unfold rp
    rw [List.take_append_of_le_length (by simp)]
    simp
  have h2 : (rp x k c).drop (k + m) = List.replicate (c - (k + m)) (.int .i64 0) := by
    unfold rp
    rw [List.drop_append, List.drop_replicate, List.length_replicate, List.drop_replicate]
    rw [show k - (k + m) = 0 by omega, show c - k - (k + m - k) = c - (k + m) by omega]
    simp
  rw [h1, h2, List.replicate_append_replicate]
  rfl
theorem make50 (w : World) (n : Nat) (hn : n ≤ 100000) : (Instr.makeSlice 50 (.int .i64 (n : Int)) (.int .i64 (n : Int))).run Try.prog w =
    .ok (.slice (some ⟨w.heap.size, 0, none⟩) n n) (w.alloc (.cells (Array.replicate n (.int .i64 0)) 3)) := by
  obtain ⟨i, hi, hz, hs, hb⟩ := info3p
  have := run_makeSlice (P := Try.prog) w 50 3 i (.int .i64 0) Try.underlying50 hi hz .i64 .i64 n n (by omega) (Int.le_refl _) (by rw [hs]; simp; omega) (by rw [hb]; omega) (by omega)
  rw [this, hs, Int.toNat_natCast, Nat.mul_one, made3]

/-- copy(row[k:], row[:k]), one doubling -/
theorem copy_double {w : World} {g c k m : Nat} {x : Int} (hg : w.heap[g]? = some (.cells (rp x k c).toArray 3 (0, 0))) (hk : k ≤ c) (hm : m = min k (c - k)) (ty : TypeId) :
    (Builtin.copy_ #[50, 50] ty #[.slice (some ⟨g, k, none⟩) (c - k) (c - k), .slice (some ⟨g, 0, none⟩) k c]).run Try.prog w = .ok (.int .i64 m) (w.setRow g (rp x (k + m) c).toArray) := by
  have h3 : (Try.prog.info? 3).map (·.size) = some 1 := by kernel_rfl
  have := run_copy_row (P := Try.prog) w 50 50 ty 3 g k (c - k) (c - k) ⟨g, 0, none⟩ k c (rp x k c).toArray 3 (List.replicate m (.int .i64 x)) Try.underlying50 h3 hg (by rw [List.length_replicate, hm]; first | rfl | done)
    (fun j v hv => by
      have hj : j < m := by have := (List.getElem?_eq_some_iff.1 hv).1; simpa using this
      rw [Addr.add_lit, Nat.zero_add, cell_of_row _ _ _ _ _ _ hg, List.getElem?_toArray, rp_get x hk (by omega), if_pos (by omega), ← hv]
      simp [hj]) (by rw [List.size_toArray, length_rp x hk, List.length_replicate]; omega) (fun v hv => by rw [(List.mem_replicate.1 hv).2]; rfl)
  rw [this]
  simp only [List.length_replicate]
  rw [rp_step x (by omega)]
  rfl
theorem copy_first {w : World} {g c b o cc : Nat} {x : Int} (hg : w.heap[g]? = some (.cells (rp x 0 c).toArray 3 (0, 0))) (hc : 0 < c) (hb : w.cell? ⟨b, o, none⟩ = some (.int .i64 x)) (ty : TypeId) :
    (Builtin.copy_ #[50, 50] ty #[.slice (some ⟨g, 0, none⟩) c c, .slice (some ⟨b, o, none⟩) 1 cc]).run Try.prog w = .ok (.int .i64 1) (w.setRow g (rp x 1 c).toArray) := by
  have h3 : (Try.prog.info? 3).map (·.size) = some 1 := by kernel_rfl
  have := run_copy_row (P := Try.prog) w 50 50 ty 3 g 0 c c ⟨b, o, none⟩ 1 cc (rp x 0 c).toArray 3 [.int .i64 x] Try.underlying50 h3 hg (by show 1 = min 1 c; omega)
    (fun j v hv => by
      match j, hv with
      | 0, hv => rw [Addr.add_lit, Nat.add_zero, hb]; simpa using hv) (by rw [List.size_toArray, length_rp x (Nat.zero_le _)]; simp; omega) (fun v hv => by simp at hv; rw [hv]; rfl)
  rw [this]
  have e := rp_step x (k := 0) (m := 1) (c := c) (by omega)
  rw [Nat.zero_add] at e
  rw [← e]
  simp [goInt]
theorem copy_none {w : World} {g b o cc : Nat} (ty : TypeId) : (Builtin.copy_ #[50, 50] ty #[.slice (some ⟨g, 0, none⟩) 0 0, .slice (some ⟨b, o, none⟩) 1 cc]).run Try.prog w = .ok (.int .i64 0) w := by
  have h3 : (Try.prog.info? 3).map (·.size) = some 1 := by kernel_rfl
  exact run_copy_none (P := Try.prog) w 50 50 ty 3 _ _ _ _ _ _ Try.underlying50 h3 (by show min 1 0 = 0; rfl)

theorem mul86 (w : World) (c : Nat) (hc : c ≤ 1000) : Calls Try.prog 86 #[.int .u64 1, .int .u64 c] w fun e w' => e = .returned (.tuple #[.int .u64 0, .int .u64 c]) ∧ w' = w :=
  (Any.bits_Mul Try.lays212 1 c (by omega) (by omega) w).mono fun e w' ⟨he, hw⟩ => by
    refine ⟨?_, hw⟩
    rw [he, show 1 * c / 18446744073709551616 = 0 by omega, show 1 * c % 18446744073709551616 = c by omega]
    rfl
/-- v owns c letters x -/
def Rep (w : World) (x : Int) (c : Nat) (e : Ending) (w' : World) : Prop := ∃ v, e = .returned v ∧ (∃ g, v = .slice (some ⟨g, 0, none⟩) c c ∧ w.heap.size ≤ g ∧ w'.heap[g]? = some (.cells (rp x c c).toArray 3 (0, 0))) ∧ Below w.heap.size w w'
theorem rp_zero (x : Int) (c : Nat) : Array.replicate c (Value.int .i64 0) = (rp x 0 c).toArray := by simp [rp]
theorem drew_setRow (w : World) (g : Nat) (cs : Array Value) : w.drew.setRow g cs = (w.setRow g cs).drew := rfl

set_option maxRecDepth 100000 in
set_option maxHeartbeats 1000000 in
theorem repeat_any (w : World) (b o cc : Nat) (x : Int) (c : Nat) (hc : c ≤ 1000) (hx : w.cell? ⟨b, o, none⟩ = some (.int .i64 x)) :
    Calls Try.prog 66 #[.slice (some ⟨b, o, none⟩) 1 cc, .int .i64 c] w (Rep w x c) := by
  have hmk := make50 w c (by omega)
  rw [rp_zero x c] at hmk
  have hg0 := heap_alloc_new w (.cells (rp x 0 c).toArray 3)
  have hb0 : Below w.heap.size w (w.alloc (.cells (rp x 0 c).toArray 3)) := (Below.refl _ _).alloc (Nat.le_refl _) _
  have hx0 := (KC.of_below hb0).cell hx
  have hc0 : (0 : Int) ≤ (c : Int) := Int.natCast_nonneg _
  have hc1 : (c : Int) ≤ 1000 := by omega
  have HM := Lib.hid (mul86 w c hc)
  have HG := Lib.hid hg0
  have HB := Lib.hid hb0
  clear hg0 hb0 hx
  generalize w.alloc (.cells (rp x 0 c).toArray 3) = W at *
  have d1 : decide ((c : Int) < 0) = false := by simp
  go_enter Try.func66, Try.ntmps66
  go_wp2_with fail
  rcases Nat.eq_zero_or_pos c with h0 | h0
  · subst h0
    have hmk0 : (Instr.makeSlice 50 (.int .i64 0) (.int .i64 0)).run Try.prog w = .ok (.slice (some ⟨w.heap.size, 0, none⟩) 0 0) W := hmk
    have hcn := copy_none (w := W) (g := w.heap.size) (b := b) (o := o) (cc := cc) 3
    go_wp2_with (go_at_call 86; (refine HM.out.mono ?_); rintro e w' ⟨rfl, rfl⟩)
    go_loop [8] (fun s => s = .int .i64 0) (fun _ => 0)
    case atStart => rfl
    case round =>
      subst hrel
      go_wp2_with fail
      go_ret
      exact ⟨_, rfl, ⟨_, rfl, Nat.le_refl _, HG.out⟩, HB.out⟩
  · have hcf := copy_first (cc := cc) HG.out h0 hx0 3
    have hg1 := setRow_heap W w.heap.size _ (rp x 1 c).toArray 3 (0, 0) HG.out
    have hb1 : Below w.heap.size w (W.setRow w.heap.size (rp x 1 c).toArray) := HB.out.trans ⟨rfl, rfl, rfl, by rw [World.setRow]; simp, fun k hk => setRow_other W _ k _ (by omega)⟩
    have hcc1 : (1 : Int) ≤ (c : Int) := by omega
    go_wp2_with (go_at_call 86; (refine HM.out.mono ?_); rintro e w' ⟨rfl, rfl⟩)
    generalize W.setRow w'.heap.size (rp x 1 c).toArray = W1 at *
    go_loopw [8] (fun s wr => ∃ k : Nat, 1 ≤ k ∧ k ≤ c ∧ s = .int .i64 k ∧ wr.heap[w'.heap.size]? = some (.cells (rp x k c).toArray 3 (0, 0)) ∧ Below w'.heap.size w' wr) (fun s _ => c - (intOf s).toNat)
    case atStart => exact ⟨1, Nat.le_refl _, h0, rfl, hg1, hb1⟩
    case round =>
      obtain ⟨k, hk1, hk, rfl, hg, hb⟩ := hrel
      by_cases hlt : k < c
      · have hk0 : (0 : Int) ≤ (k : Int) := Int.natCast_nonneg _
        have hkc : (k : Int) ≤ (c : Int) := by omega
        have hkl : (k : Int) < (c : Int) := by omega
        obtain ⟨m, hm⟩ : ∃ m, m = min k (c - k) := ⟨_, rfl⟩
        have hm1 : 1 ≤ m := by omega
        have hm2 : k + m ≤ c := by omega
        have hcd := copy_double (w := wr.drew) (x := x) (m := m) hg hk hm 3
        have hgn := setRow_heap wr w'.heap.size _ (rp x (k + m) c).toArray 3 (0, 0) hg
        have hbn : Below w'.heap.size w' (wr.setRow w'.heap.size (rp x (k + m) c).toArray) := hb.trans ⟨rfl, rfl, rfl, by rw [World.setRow]; simp, fun k hk => setRow_other wr _ k _ (by omega)⟩
        rw [drew_setRow] at hcd
        have HM' := Lib.hid hm
        have HGN := Lib.hid hgn
        have HBN := Lib.hid hbn
        clear hg hb hm hgn hbn hcf hmk
        go_wp2_with fail
        go_region
        go_wp2_with fail
        go_roundw
        case rel => exact ⟨k + m, by omega, by omega, by go_num, HGN.out, HBN.out.drew⟩
        case measure => simp [intOf]; omega
      · obtain rfl : k = c := by omega
        go_wp2_with fail
        go_ret
        exact ⟨_, rfl, ⟨_, rfl, Nat.le_refl _, hg⟩, hb⟩
end Go.Proofs
