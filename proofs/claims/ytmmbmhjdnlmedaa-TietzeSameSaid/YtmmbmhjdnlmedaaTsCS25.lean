/- The walk of TietzeSame where the lists are short. -/
import Derived.Test.YtmmbmhjdnlmedaaTsCS23
import Derived.Test.YtmmbmhjdnlmedaaTsCS24
import Derived.Test.YtmmbmhjdnlmedaaTsCS21
import Derived.Deep.CutBlock
import Derived.Deep.CutRange
namespace Go.Proofs
open Go.RowKit Go.Shelf Go.Lib Go.Sort Go.Proofs.Ct Go.Proofs.Tz Go.Maps
set_option maxRecDepth 100000 in
set_option maxHeartbeats 8000000 in
theorem same4_short (w : World) (degree steps : Int) (va vb vl vd : Value) (a b l df : List Int) (ha : IntsAt w va a) (hb : IntsAt w vb b) (hl : IntsAt w vl l) (hd : IntsAt w vd df) (h1 : a.length ≤ 5) (h2 : b.length ≤ 5) (h3 : l.length ≤ 30) (h4 : df.length ≤ 20) :
    Calls Try.prog 4 #[.int .i64 degree, .int .i64 steps, va, vb, vl, vd] w fun e w' => e = .returned (.bool true) ∧ Below w.heap.size w w' := by
  obtain ⟨Aa, ca, rfl, -, -, -⟩ := ha.open_
  obtain ⟨Ab, cb, rfl, -, -, -⟩ := hb.open_
  obtain ⟨Al, cl, rfl, -, -, -⟩ := hl.open_
  obtain ⟨Ad, cd, rfl, -, -, -⟩ := hd.open_
  have H3 := Lib.hid (tietzeKnown3_any w)
  have HA := Lib.hid ha
  have HB := Lib.hid hb
  have HL := Lib.hid hl
  have HD := Lib.hid hd
  have HLN : Hid (l.length ≤ 30 ∧ df.length ≤ 20) := Lib.hid ⟨h3, h4⟩
  have d1 : decide (5 < (a.length : Int)) = false := decide_eq_false (by omega)
  have d2 : decide (5 < (b.length : Int)) = false := decide_eq_false (by omega)
  have d3 : decide (30 < (l.length : Int)) = false := decide_eq_false (by omega)
  have d4 : decide (20 < (df.length : Int)) = false := decide_eq_false (by omega)
  have hdn := Int.emod_nonneg degree (show (5 : Int) ≠ 0 by decide)
  have hdl := Int.emod_lt_of_pos degree (show (0 : Int) < 5 by decide)
  have hsn := Int.emod_nonneg steps (show (31 : Int) ≠ 0 by decide)
  have hsl := Int.emod_lt_of_pos steps (show (0 : Int) < 31 by decide)
  obtain ⟨d0, hd'⟩ : ∃ d0 : Nat, (d0 : Int) = degree % 5 := ⟨(degree % 5).toNat, by omega⟩
  obtain ⟨st, hst⟩ : ∃ st : Nat, (st : Int) = steps % 31 := ⟨(steps % 31).toNat, by omega⟩
  have H5 : Hid (∀ W, Calls Try.prog 13 #[.int .i64 degree, .int .i64 5] W fun e w' => e = .returned (.int .i64 (d0 : Int)) ∧ w' = W) := Lib.hid fun W => by rw [hd']; exact turn59_any W degree 5 (by omega)
  have H31 : Hid (∀ W, Calls Try.prog 13 #[.int .i64 steps, .int .i64 31] W fun e w' => e = .returned (.int .i64 (st : Int)) ∧ w' = W) := Lib.hid fun W => by rw [hst]; exact turn59_any W steps 31 (by omega)
  obtain ⟨d, hdd⟩ : ∃ d, d = d0 + 1 := ⟨_, rfl⟩
  have hd0 : (0 : Int) ≤ (d0 : Int) := Int.natCast_nonneg _
  have hd9 : (d0 : Int) ≤ 4 := by omega
  have hdb : 1 ≤ d ∧ d ≤ 6 := by omega
  have HD5 : Hid (1 ≤ d ∧ d ≤ 5) := Lib.hid (by omega)
  have HST : Hid (st ≤ 1000) := Lib.hid (by omega)
  have hdi : (1 : Int) + (d0 : Int) = (d : Int) := by omega
  have HDI := Lib.hid hdi
  have HPA : Hid (∀ W, Below w.heap.size w W → Calls Try.prog 14 #[.slice Aa a.length ca, .int .i64 (1 + (d0 : Int))] W fun e w' => (∃ A c, e = .returned (.slice A d c) ∧ IntsAt w' (.slice A d c) (nz (permF d a))) ∧ Below W.heap.size W w') := Lib.hid fun W h => by rw [hdi]; exact perm63_any W _ a d hdb (ha.below h)
  have HPB : Hid (∀ W, Below w.heap.size w W → Calls Try.prog 14 #[.slice Ab b.length cb, .int .i64 (1 + (d0 : Int))] W fun e w' => (∃ A c, e = .returned (.slice A d c) ∧ IntsAt w' (.slice A d c) (nz (permF d b))) ∧ Below W.heap.size W w') := Lib.hid fun W h => by rw [hdi]; exact perm63_any W _ b d hdb (hb.below h)
  have HQA := Lib.hid (permF_prm d a)
  have HQB := Lib.hid (permF_prm d b)
  clear ha hb hl hd h1 h2 h3 h4 HA HB hdd hdi hdb hd' hst hdn hdl hsn hsl
  generalize permF d a = pa at *
  generalize permF d b = pb0 at *
  go_enter Try.func4, Try.ntmps4
  go_wp2_with fail
  refine H3.out.mono ?_
  rintro e w1 ⟨rfl, hb⟩
  have HB1 := Lib.hid hb
  clear hb H3
  go_wp2_with fail
  refine (H5.out _).mono ?_
  rintro e w2 ⟨rfl, rfl⟩
  go_wp2_with fail
  refine (H31.out _).mono ?_
  rintro e w3 ⟨rfl, rfl⟩
  go_wp2_with fail
  refine (HPA.out _ HB1.out).mono ?_
  rintro e w4 ⟨⟨A4, c4, rfl, hi4⟩, hb⟩
  have HI4 := Lib.hid hi4
  have HB4 := Lib.hid (HB1.out.trans (hb.mono HB1.out.size))
  clear hi4 hb
  go_wp2_with fail
  refine (HPB.out _ HB4.out).mono ?_
  rintro e w5 ⟨⟨A5, c5, rfl, hi5⟩, hb⟩
  have HI5 := Lib.hid hi5
  have HI4' := Lib.hid (HI4.out.below hb)
  have HB5 := Lib.hid (HB4.out.trans (hb.mono HB4.out.size))
  have HW5 : Hid (w.heap.size ≤ w5.heap.size) := Lib.hid HB5.out.size
  clear hi5 hb HI4 HB4 HB1 H5 H31 HPA HPB
  go_upto_region 7 with fail
  obtain ⟨wm, hwm⟩ : ∃ wm, wm = w5.alloc (.cells #[.slice A4 d c4, .slice A5 d c5] 40) := ⟨_, rfl⟩
  rw [← hwm]
  have hb5m : Below w5.heap.size w5 wm := by rw [hwm]; exact (Below.refl _ _).alloc (Nat.le_refl _) _
  have hsm : wm.heap.size = w5.heap.size + 1 := by rw [hwm]; simp
  have HSM := Lib.hid hsm
  have HBM : Hid (Below w.heap.size w wm) := Lib.hid (HB5.out.trans (hb5m.mono HB5.out.size))
  have HTM : Hid (Tab wm (.slice (some ⟨w5.heap.size, 0, none⟩) 2 2) ([pa, pb0].map nz)) := Lib.hid (by
    refine tab_blk (us := [.slice A4 d c4, .slice A5 d c5]) (e := 40) (by rw [hwm]; exact heap_alloc_new w5 _) rfl rfl (by simp) fun i hi => ?_
    have : i = 0 ∨ i = 1 := by simp at hi; omega
    rcases this with rfl | rfl
    · exact HI4'.out.below hb5m
    · exact HI5.out.below hb5m)
  have HMS : Hid (MS w5.heap.size (fun k => k < w5.heap.size) (.slice (some ⟨w5.heap.size, 0, none⟩) 2 2) [pa, pb0] wm) := Lib.hid (by rw [hwm]; exact MS.start HI4'.out HI5.out)
  have HMP : Hid (∀ x ∈ [pa, pb0], Prm d x) := Lib.hid fun x hx => by
    rcases List.mem_cons.1 hx with rfl | hx
    · exact HQA.out
    · rw [List.mem_singleton.1 hx]; exact HQB.out
  have HML : Hid ([pa, pb0].length = 2) := Lib.hid rfl
  clear hwm hb5m hsm HI4' HI5 HB5 HQA HQB
  generalize [pa, pb0] = M at *
  rw [show w5.heap.size + 1 = wm.heap.size from HSM.out.symm]
  obtain ⟨wb, hwb⟩ : ∃ wb, wb = wm.alloc (.cells #[.int .i64 2, .slice none 0 0] 27) := ⟨_, rfl⟩
  rw [← hwb]
  have hbb : Below wm.heap.size wm wb := by rw [hwb]; exact (Below.refl _ _).alloc (Nat.le_refl _) _
  have hxb : wb.heap[wm.heap.size]? = some (.cells #[.int .i64 2, .slice none 0 0] 27 (0, 0)) := by rw [hwb]; exact heap_alloc_new wm _
  have HXB := Lib.hid hxb
  have HBB := Lib.hid hbb
  have HLW : Hid (Calls Try.prog 15 #[.slice Al l.length cl, .int .i64 2] wb (LawWordsPostO (lawWords 2 6 l) wb)) := Lib.hid (words15_own wb _ l 2 (HL.out.below (HBM.out.trans (hbb.mono HBM.out.size))) (by omega) (by have := HLN.out; omega))
  have HWD : Hid ((lawWords 2 6 l).length ≤ 6 ∧ ∀ x ∈ lawWords 2 6 l, x.length ≤ 12 ∧ LOk 2 x) := Lib.hid ⟨by unfold lawWords; rw [List.length_take]; omega, fun x hx => mem_wordsT (by omega) _ _ x (List.mem_of_mem_take hx)⟩
  clear hwb hbb hxb HL
  unfold LawWordsPostO at HLW
  generalize lawWords 2 6 l = WS at *
  go_wp2_with fail
  refine HLW.out.mono ?_
  rintro e wa ⟨⟨Aw, cw, rfl, FW, hfw⟩, hbw⟩
  have HTW : Hid (TabX (fun _ => False) wa (.slice Aw WS.length cw) WS) := Lib.hid (TabX.new2 hfw fun k hk => hk.elim)
  have HPS0 : Hid (PS wm.heap.size wm.heap.size (fun _ => False) (fun _ => False) wa 2 (.slice none 0 0) (.slice none 0 0) [] wa) := Lib.hid ⟨(hbw.block _ (Array.getElem?_eq_some_iff.1 HXB.out).1).trans HXB.out, Nat.le_refl _, Nat.lt_of_lt_of_le (Array.getElem?_eq_some_iff.1 HXB.out).1 hbw.size, Below.refl _ _, AgX.refl _ _, ⟨[], World.ownsRow_nil _ _ _ _, RowsF.nil _ _⟩, fun k hk => hk.elim, fun r hr => by cases hr⟩
  have HBA : Hid (Below wm.heap.size wm wa) := Lib.hid (HBB.out.trans (hbw.mono HBB.out.size))
  have hws0 := WS.length
  have hwl : (WS.length : Int) ≤ 6 := by have := HWD.out.1; omega
  have hw0 : (0 : Int) ≤ (WS.length : Int) := Int.natCast_nonneg _
  have HTR : Hid (0 < WS.length → ∃ br or_, Aw = some ⟨br, or_, none⟩ ∧ ∀ W, AgX (fun _ => False) wa W → ∀ i, i < WS.length → ∃ Au cu, W.cell? ⟨br, or_ + i, none⟩ = some (.slice Au (WS.getD i []).length cu) ∧ IntsAt W (.slice Au (WS.getD i []).length cu) (WS.getD i [])) := Lib.hid fun h0 => by
    obtain ⟨A', c', e', -, -, hcc⟩ := LAt.open_ HTW.out.tab
    obtain ⟨rfl, -, rfl⟩ := Value.slice.inj e'
    obtain ⟨br, or_, rfl, -⟩ := hcc h0
    refine ⟨br, or_, rfl, fun W h i hi => ?_⟩
    obtain ⟨A2, c2, e2, -, -, hcc2⟩ := LAt.open_ (HTW.out W h)
    obtain ⟨rfl, -, rfl⟩ := Value.slice.inj e2
    obtain ⟨br2, or2, e3, hc⟩ := hcc2 h0
    injection e3 with e3
    injection e3 with e4 e5
    subst e4 e5
    obtain ⟨u, hu, hi⟩ := hc i hi
    obtain ⟨Au, cu, rfl, -, -, -⟩ := hi.open_
    exact ⟨Au, cu, hu, hi⟩
  clear hfw hbw HLW HXB HBB hws0
  have HSAT : Hid (∀ (W : World) (v : Value) (x : Ct.W), Below wm.heap.size wm W → Tab W v [x] → LOk 2 x → x.length ≤ 72 → Calls Try.prog 16 #[.agg #[.int .i64 2, v], .slice (some ⟨w5.heap.size, 0, none⟩) 2 2] W fun e w' => e = .returned (.tuple #[.bool (satB M d [x]), .int .i64 0]) ∧ Below W.heap.size W w') := Lib.hid fun W v x hb hv hx hl => by
    refine sat16_any W v _ M 2 d [x] ⟨HD5.out.1, by have := HD5.out.2; omega⟩ HMP.out HML.out (by decide) (kept_tab.below HTM.out hb) hv (presE_of (by decide) (by simp) (fun y hy => by rw [List.mem_singleton.1 hy]; exact hx) (by simp [lenL]; omega)) fun j hj => by
      obtain rfl : j = 0 := by simpa using hj
      exact hx
  have HORD : Hid (∀ x, LOk 2 x → ∃ n, 1 ≤ n ∧ n ≤ 6 ∧ satB M d [wpow x n] = true) := Lib.hid fun x hx => by
    obtain ⟨n, h1, h2, h3⟩ := word_orderM HMP.out (by have := HD5.out.2; omega : d ≤ 6) (w := x) (by rw [HML.out]; exact hx)
    exact ⟨n, h1, h2, sat_one.2 h3⟩
  go_wp2_with fail
  go_loopw [16] (fun i wr => ∃ k : Nat, i = .int .i64 (k : Int) ∧ k ≤ WS.length ∧ Hid (∃ F A c R, R.length = k ∧ (∀ x ∈ R, LOk 2 x ∧ x.length ≤ 72) ∧ satB M d R = true ∧ PS wm.heap.size wm.heap.size (fun _ => False) F wa 2 (.slice A R.length c) (.slice A R.length c) R wr)) (fun i _ => WS.length - (intOf i).toNat)
  case atStart => exact ⟨0, rfl, Nat.zero_le _, Lib.hid ⟨_, none, 0, [], rfl, (fun x hx => by cases hx), rfl, HPS0.out⟩⟩
  case round =>
    clear HPS0
    obtain ⟨k, rfl, hk, HR⟩ := hrel
    obtain ⟨F, A, c, R, hRl, hRw, hRs, hps⟩ := HR.out
    have HRL := Lib.hid hRl
    have HRW := Lib.hid hRw
    have HRS := Lib.hid hRs
    have HPS := Lib.hid hps
    clear HR hRl hRw hRs hps
    have hk0 : (0 : Int) ≤ (k : Int) := Int.natCast_nonneg _
    by_cases hkl : k < WS.length
    · have hkl' : (k : Int) < (WS.length : Int) := by omega
      obtain ⟨br, or_, rfl, htr⟩ := HTR.out (by omega)
      have HTR2 := Lib.hid fun W h => htr W h k hkl
      clear htr
      obtain ⟨hu12, huok⟩ := HWD.out.2 (WS.getD k []) (by rw [List.getD_eq_getElem?_getD, List.getElem?_eq_getElem hkl]; exact List.getElem_mem hkl)
      have HU := Lib.hid huok
      obtain ⟨n0, hn1, hn2, hn3⟩ := HORD.out _ huok
      have HN3 := Lib.hid hn3
      have HU12 := Lib.hid hu12
      clear huok hn3 hu12
      generalize WS.getD k [] = u at *
      obtain ⟨wo, hwo⟩ : ∃ wo, wo = wr := ⟨_, rfl⟩
      rw [← hwo] at HPS ⊢
      clear hwo
      go_wp2_with fail
      go_loopw [18, 19] (fun vw n wr => ∃ (j m : Nat) (A1 : Option Addr) (c1 : Nat), n = .int .i64 (j : Int) ∧ j ≤ 6 ∧ vw = .slice A1 m c1 ∧ Hid (m = (wpow u j).length ∧ PS wm.heap.size wm.heap.size (fun _ => False) F wa 2 (.slice A R.length c) (.slice A R.length c) R wr ∧ PSw F wa (.slice A1 m c1) (wpow u j) wr ∧ ∀ n, 1 ≤ n → n ≤ j → satB M d [wpow u n] = false)) (fun _ n _ => 6 - (intOf n).toNat)
      case atStart => exact ⟨0, 0, none, 0, rfl, by omega, rfl, Lib.hid ⟨rfl, HPS.out, PSw.nil _ _ _, fun n h1 h2 => by omega⟩⟩
      case round =>
        clear HPS
        obtain ⟨j, m, A1, c1, rfl, hj, rfl, HI⟩ := hrel
        have hj0 : (0 : Int) ≤ (j : Int) := Int.natCast_nonneg _
        by_cases hj6 : j < 6
        · have hj6' : (j : Int) < 6 := by omega
          obtain ⟨Au, cu, x1, hiu⟩ := HTR2.out wr HI.out.2.1.ag
          have hul : u.length ≤ 12 := HU12.out
          have hwl1 : (wpow u j).length ≤ 72 := by rw [length_wpow]; exact Nat.le_trans (Nat.mul_le_mul (show j ≤ 6 by omega) hul) (by omega)
          have hwl2 : (wpow u (j + 1)).length ≤ 72 := by rw [length_wpow]; exact Nat.le_trans (Nat.mul_le_mul (show j + 1 ≤ 6 by omega) hul) (by omega)
          obtain ⟨A2, c2, W1, hr1, hP1, hw1, -⟩ := HI.out.2.2.1.cat HI.out.2.1 24 Try.underlying24 hiu (by omega) (by omega)
          have hlk : LOk 2 (wpow u (j + 1)) := wpow_ok HU.out _
          have hft : Fits (wpow u (j + 1)) := fun z hz => by have := hlk z hz; omega
          rw [show wpow u j ++ u = wpow u (j + 1) from rfl] at hr1 hw1
          have HNF : Hid (∀ n, 1 ≤ n → n ≤ j → satB M d [wpow u n] = false) := Lib.hid HI.out.2.2.2
          have HFT := Lib.hid hft
          have HLK := Lib.hid hlk
          have HWL := Lib.hid hwl2
          obtain ⟨m2, hm2⟩ : ∃ m2, m2 = (wpow u (j + 1)).length := ⟨_, rfl⟩
          rw [← hm2] at hr1 hw1
          have HM2 := Lib.hid hm2
          have HR1 := Lib.hid hr1
          have HP1 := Lib.hid hP1
          have HW1 := Lib.hid hw1
          have hba : Below W1.heap.size W1 (W1.alloc (.cells #[.slice A2 m2 c2] 24)) := (Below.refl _ _).alloc (Nat.le_refl _) _
          have HBA1 := Lib.hid hba
          have HSC := Lib.hid (HSAT.out (W1.alloc (.cells #[.slice A2 m2 c2] 24)) (.slice (some ⟨W1.heap.size, 0, none⟩) 1 1) (wpow u (j + 1)) ((HBA.out.trans HP1.out.below).trans (hba.mono (by have := HBA.out.size; have := HP1.out.below.size; omega))) (tab_blk (us := [.slice A2 m2 c2]) (heap_alloc_new W1 _) rfl rfl (by simp) fun i hi => by
            obtain rfl : i = 0 := by simpa using hi
            exact (OwnI.ints hw1.row hft).below hba) hlk hwl2)
          clear hr1 hP1 hw1 hba hft hlk hwl1 hwl2 hm2 hul hiu HI
          go_wp2_with ((with_reducible refine wpList_sel 89 ?_); refine wpList_val rfl (r_app (.tmp 84) (.tmp 88) 24 rfl rfl rfl HR1.out) ?_)
          refine HSC.out.mono ?_
          rintro e W2 ⟨rfl, hb2⟩
          have HP2 := Lib.hid ((HP1.out.below' HBA1.out).below' hb2)
          have HW2 := Lib.hid ((HW1.out.below' HBA1.out).below' hb2)
          clear hb2 x1 HSC HP1 HW1 HR1 HBA1
          by_cases hsat : satB M d [wpow u (j + 1)] = true
          · rw [hsat]
            have HSA := Lib.hid hsat
            obtain ⟨A3, c3, W3, hr3, hP3, -⟩ := HP2.out.push HW2.out HFT.out (by have := HRL.out; have := HWD.out.1; omega)
            have HR3 := Lib.hid hr3
            have x2 := (cell_of2 HP2.out.box).2
            have x3 := (cell_of2 hP3.box).2
            have x4 := frozen_row hP3.box 1
            have HP4 := Lib.hid (hP3.put (k := 1) (z := .slice A3 (R.length + 1) c3) rfl)
            clear hr3 hP3 hsat HP2 HW2
            go_wp2_with ((with_reducible refine wpList_sel 103 ?_); refine wpList_val rfl (r_app (.tmp 100) (.tmp 102) 25 rfl rfl rfl HR3.out) ?_)
            have HEX : Hid (∃ F A c R', R'.length = k + 1 ∧ (∀ x ∈ R', LOk 2 x ∧ x.length ≤ 72) ∧ satB M d R' = true ∧ PS wm.heap.size wm.heap.size (fun _ => False) F wa 2 (.slice A R'.length c) (.slice A R'.length c) R' (W3.setCell ⟨wm.heap.size, 1, none⟩ (.slice A3 (R.length + 1) c3))) := Lib.hid ⟨_, A3, c3, R ++ [wpow u (j + 1)], by rw [List.length_append, HRL.out]; rfl, fun x hx => by
              rcases List.mem_append.1 hx with hx | hx
              · exact HRW.out x hx
              · rw [List.mem_singleton.1 hx]; exact ⟨HLK.out, HWL.out⟩, by rw [satB_app, HRS.out, HSA.out]; rfl, by rw [List.length_append]; exact HP4.out⟩
            refine ⟨⟨k + 1, by go_num, by omega, HEX⟩, ?_⟩
            simp [intOf]; omega
          · rw [Bool.not_eq_true] at hsat
            rw [hsat]
            have HIX : Hid (m2 = (wpow u (j + 1)).length ∧ PS wm.heap.size wm.heap.size (fun _ => False) F wa 2 (.slice A R.length c) (.slice A R.length c) R W2 ∧ PSw F wa (.slice A2 m2 c2) (wpow u (j + 1)) W2 ∧ ∀ n, 1 ≤ n → n ≤ j + 1 → satB M d [wpow u n] = false) := Lib.hid ⟨HM2.out, HP2.out, HW2.out, fun n h1 h2 => by
              rcases Nat.lt_or_ge n (j + 1) with h | h
              · exact HNF.out n h1 (by omega)
              · obtain rfl : n = j + 1 := by omega
                exact hsat⟩
            clear hsat HP2 HW2
            go_wp2_with fail
            go_roundw
            case rel => exact ⟨j + 1, m2, A2, c2, by go_num, by omega, rfl, HIX⟩
            case measure => simp [intOf]; omega
        · exfalso
          obtain rfl : j = 6 := by omega
          have h1 := HI.out.2.2.2 n0 hn1 hn2
          rw [HN3.out] at h1
          cases h1
    · obtain rfl : k = WS.length := by omega
      clear HTR HORD HSAT hkl hk
      have hbr : Below wm.heap.size wm wr := HBA.out.trans HPS.out.below
      have HLW : Hid (Calls Try.prog 15 #[.slice Ad df.length cd, .int .i64 2] wr (LawWordsPostO (lawWords 2 6 df) wr)) := Lib.hid (words15_own wr _ df 2 (HD.out.below (HBM.out.trans (hbr.mono HBM.out.size))) (by omega) (by have := HLN.out; omega))
      have HWE : Hid (∀ x ∈ lawWords 2 6 df, x.length ≤ 12 ∧ LOk 2 x) := Lib.hid fun x hx => mem_wordsT (by omega) _ _ x (List.mem_of_mem_take hx)
      have HWL : Hid ((lawWords 2 6 df).length ≤ 6) := Lib.hid (by unfold lawWords; rw [List.length_take]; omega)
      have HRN : Hid (R.length ≤ 6) := Lib.hid (by rw [HRL.out]; exact HWD.out.1)
      have HBR := Lib.hid hbr
      unfold LawWordsPostO at HLW
      generalize lawWords 2 6 df = WD at *
      clear hbr HD HLN HRL HWD HTW HBA
      go_wp2_with fail
      refine HLW.out.mono ?_
      rintro e wa2 ⟨⟨A2, c2, rfl, FW2, hfw2⟩, hbw2⟩
      have HPS2 := Lib.hid ((HPS.out.below' hbw2).anchor (B' := w5.heap.size) (by have := HSM.out; omega))
      have HBA2 : Hid (Below wm.heap.size wm wa2) := Lib.hid (HBR.out.trans (hbw2.mono HBR.out.size))
      have HMS2 := Lib.hid (HMS.out.below' HBA2.out)
      have HTX : Hid (TabX (fun r => (Value.slice A R.length c).ownBlock = some r) wa2 (.slice A2 WD.length c2) WD) := Lib.hid (TabX.new2 hfw2 fun k hk => by
        obtain ⟨-, C, hC⟩ := HPS.out.out.block k hk
        have hlt := (Array.getElem?_eq_some_iff.1 hC).1
        refine ⟨fun h => ?_, fun h => ?_⟩
        · have := (hfw2.fs k h).1
          omega
        · have := (hfw2.out.block k h).1
          omega)
      have hwl2 : (WD.length : Int) ≤ 6 := by have := HWL.out; omega
      have hw02 : (0 : Int) ≤ (WD.length : Int) := Int.natCast_nonneg _
      obtain ⟨X, hX⟩ : ∃ X : Nat → Prop, X = fun r => (Value.slice A R.length c).ownBlock = some r := ⟨_, rfl⟩
      rw [← hX] at HPS2 HTX
      have HTR : Hid (0 < WD.length → ∃ br or_, A2 = some ⟨br, or_, none⟩ ∧ ∀ W, AgX X wa2 W → ∀ i, i < WD.length → ∃ Au cu, W.cell? ⟨br, or_ + i, none⟩ = some (.slice Au (WD.getD i []).length cu) ∧ IntsAt W (.slice Au (WD.getD i []).length cu) (WD.getD i [])) := Lib.hid fun h0 => by
        obtain ⟨A', c', e', -, -, hcc⟩ := LAt.open_ HTX.out.tab
        obtain ⟨rfl, -, rfl⟩ := Value.slice.inj e'
        obtain ⟨br, or_, rfl, -⟩ := hcc h0
        refine ⟨br, or_, rfl, fun W h i hi => ?_⟩
        obtain ⟨A2, c2, e2, -, -, hcc2⟩ := LAt.open_ (HTX.out W h)
        obtain ⟨rfl, -, rfl⟩ := Value.slice.inj e2
        obtain ⟨br2, or2, e3, hc⟩ := hcc2 h0
        injection e3 with e3
        injection e3 with e4 e5
        subst e4 e5
        obtain ⟨u, hu, hi⟩ := hc i hi
        obtain ⟨Au, cu, rfl, -, -, -⟩ := hi.open_
        exact ⟨Au, cu, hu, hi⟩
      clear hfw2 hbw2 hX HLW HPS HMS HBR HTX HWL
      go_upto_block 4 with fail
      go_cut [14, 22, 114] from 107 (fun z14 _ _ wx => ∃ (k : Nat) (Am : Option Addr) (cm : Nat), k ≤ 2 ∧ z14 = .slice Am (2 + k) cm ∧ Hid (∃ F FM A c R Mk, Mk.length = 2 + k ∧ (∀ a ∈ Mk, Prm d a) ∧ Mk.take 2 = M ∧ R.length ≤ 6 + k ∧ (∀ x ∈ R, LOk (2 + k) x ∧ x.length ≤ 72) ∧ satB Mk d R = true ∧ PS w5.heap.size wm.heap.size X F wa2 ((2 + k : Nat) : Int) (.slice A R.length c) (.slice A R.length c) R wx ∧ MS w5.heap.size FM (.slice Am (2 + k) cm) Mk wx))
      case first =>
        go_wp2_with fail
        go_loopw [14, 22] (fun vm i wr => ∃ (k : Nat) (Am : Option Addr) (cm : Nat), i = .int .i64 (k : Int) ∧ k ≤ WD.length ∧ k ≤ 2 ∧ vm = .slice Am (2 + k) cm ∧ Hid (∃ F FM A c R Mk, Mk.length = 2 + k ∧ (∀ a ∈ Mk, Prm d a) ∧ Mk.take 2 = M ∧ R.length ≤ 6 + k ∧ (∀ x ∈ R, LOk (2 + k) x ∧ x.length ≤ 72) ∧ satB Mk d R = true ∧ PS w5.heap.size wm.heap.size X F wa2 ((2 + k : Nat) : Int) (.slice A R.length c) (.slice A R.length c) R wr ∧ MS w5.heap.size FM (.slice Am (2 + k) cm) Mk wr)) (fun _ i _ => WD.length - (intOf i).toNat)
        case atStart => exact ⟨0, some ⟨w5.heap.size, 0, none⟩, 2, rfl, Nat.zero_le _, by omega, rfl, Lib.hid ⟨F, _, A, c, R, M, HML.out, HMP.out, List.take_of_length_le (by rw [HML.out]; omega), HRN.out, HRW.out, HRS.out, HPS2.out, HMS2.out⟩⟩
        case round =>
          clear HPS2 HMS2
          obtain ⟨k, Am, cm, rfl, hkl, hk2, rfl, HX⟩ := hrel
          have hk0 : (0 : Int) ≤ (k : Int) := Int.natCast_nonneg _
          by_cases hkc : k < WD.length ∧ k < 2
          · obtain ⟨hk3, hk4⟩ := hkc
            have hk3' : (k : Int) < (WD.length : Int) := by omega
            have hk4' : (k : Int) < 2 := by omega
            obtain ⟨F, FM, A, c, R, Mk, hx⟩ := HX.out
            have HX1 := Lib.hid hx
            have x1 := (cell_of2 hx.2.2.2.2.2.2.1.box).1
            have x2 := frozen_row hx.2.2.2.2.2.2.1.box 0
            clear hx HX
            go_upto_region 22 with fail
            obtain ⟨br, or_, rfl, htr⟩ := HTR.out (by omega)
            have HTR2 := Lib.hid fun W h => htr W h k hk3
            clear htr x1 x2
            obtain ⟨hu12, huok⟩ := HWE.out (WD.getD k []) (by rw [List.getD_eq_getElem?_getD, List.getElem?_eq_getElem hk3]; exact List.getElem_mem hk3)
            have HU := Lib.hid huok
            have HU12 := Lib.hid hu12
            clear hu12 huok
            generalize WD.getD k [] = u at *
            obtain ⟨nb, hnb⟩ : ∃ nb : Int, nb = 2 + (k : Int) + 1 := ⟨_, rfl⟩
            rw [← hnb]
            have HNB : Hid (nb = 2 + (k : Int) + 1 ∧ 3 ≤ nb ∧ nb ≤ 4) := Lib.hid ⟨hnb, by omega, by omega⟩
            obtain ⟨w8, hw8⟩ : ∃ w8, w8 = wr.setCell ⟨wm.heap.size, 0, none⟩ (.int .i64 nb) := ⟨_, rfl⟩
            rw [← hw8]
            have H8 : Hid (PS w5.heap.size wm.heap.size X F wa2 nb (.slice A R.length c) (.slice A R.length c) R w8) := Lib.hid (by rw [hw8]; exact HX1.out.2.2.2.2.2.2.1.put (k := 0) rfl)
            have HMS8 : Hid (MS w5.heap.size FM (.slice Am (2 + k) cm) Mk w8) := Lib.hid (by rw [hw8]; exact HX1.out.2.2.2.2.2.2.2.box HX1.out.2.2.2.2.2.2.1 (Nat.le_refl _) (belx_put wr wm.heap.size 0 _ _ (.inl rfl)))
            have HKL : Hid (Mk.length = 2 + k) := Lib.hid HX1.out.1
            have HB58 : Hid (w5.heap.size ≤ w8.heap.size) := Lib.hid H8.out.bnd
            have HFU : Hid (Fits (u ++ [-nb])) := Lib.hid fun z hz => by
              rcases List.mem_append.1 hz with h | h
              · have := HU.out z h; omega
              · rw [List.mem_singleton.1 h]; have := HNB.out; omega
            clear hnb hw8
            refine (wpIn_wide (n := 3)).1 ?_
            refine wpIn_region_act (by kernel_rfl) 17 rfl (fun i => if i < 16 then some (121 + i) else none) (lex_of (by kernel_rfl))
              (fun ls a W => BelX (fun q => q = wm.heap.size ∨ (Value.slice A R.length c).ownBlock = some q) w8 W ∧
            (ls 2 = true → ls 7 = false → ∃ b, slotv a (some 123) = .slice (some ⟨b, 0, none⟩) 0 0 ∧ w8.heap.size ≤ b ∧ W.heap[b]? = some (.cells #[] 3 (0, 0))) ∧
            (ls 11 = true → ls 12 = false → ∃ b, slotv a (some 132) = .slice (some ⟨b, 0, none⟩) 1 1 ∧ w8.heap.size ≤ b ∧ W.heap[b]? = some (.cells #[.int .i64 (-nb)] 3 (0, 0))) ∧
            (ls 14 = false → ls 13 = false → PS w5.heap.size wm.heap.size X F wa2 nb (.slice A R.length c) (.slice A R.length c) R W) ∧
            (ls 7 = true → ls 12 = false → ∃ Aq cq, slotv a (some 128) = .slice Aq u.length cq ∧ PSw F wa2 (.slice Aq u.length cq) u W ∧ ∀ r, (Value.slice Aq u.length cq).ownBlock = some r → w8.heap.size ≤ r) ∧
            (ls 12 = true → ls 13 = false → ∃ Aq cq, slotv a (some 133) = .slice Aq (u.length + 1) cq ∧ PSw F wa2 (.slice Aq (u.length + 1) cq) (u ++ [-nb]) W) ∧
            (ls 13 = true → ls 14 = false → ∃ Aq cq W1, slotv a (some 134) = .slice (some ⟨W1.heap.size, 0, none⟩) 1 1 ∧ W = W1.alloc (.cells #[.slice Aq (u.length + 1) cq] 24) ∧ PS w5.heap.size wm.heap.size X F wa2 nb (.slice A R.length c) (.slice A R.length c) R W1 ∧ PSw F wa2 (.slice Aq (u.length + 1) cq) (u ++ [-nb]) W1 ∧ BelX (fun q => q = wm.heap.size ∨ (Value.slice A R.length c).ownBlock = some q) w8 W1) ∧
            (ls 14 = true → ∃ Aq cq F', slotv a (some 135) = .slice Aq (R.length + 1) cq ∧ PS w5.heap.size wm.heap.size X F' wa2 nb (if ls 16 = true then .slice Aq (R.length + 1) cq else (.slice A R.length c)) (.slice Aq (R.length + 1) cq) (R ++ [u ++ [-nb]]) W) ∧
            (ls 6 = true → ls 7 = false → ∃ Au cu, slotv a (some 127) = .slice Au u.length cu ∧ IntsAt W (.slice Au u.length cu) u))
              (fun i v _ => i = 2 ∨ i = 6 ∨ i = 7 ∨ i = 11 ∨ i = 12 ∨ i = 13 ∨ i = 14 ∨ v = ([.pointer (some ⟨wm.heap.size, 1, none⟩), .slice A R.length c, undef, .slice (some ⟨br, or_, none⟩) WD.length c2, .int .i64 (k : Int), .pointer (some ⟨br, or_ + k, none⟩), undef, undef, .pointer (some ⟨wm.heap.size, 0, none⟩), .int .i64 nb, .int .i64 (-nb), undef, undef, undef, undef, .pointer (some ⟨wm.heap.size, 1, none⟩), undef] : List Value).getD i undef)
              (fun _ _ _ => True) (dm_inj (by kernel_rfl)) (fun _ _ _ _ _ _ _ _ _ h => h) (dm_lt (n := 275) (by kernel_rfl)) ?_ ?_ ?_
            · exact ⟨BelX.of_below (Below.refl w8.heap.size w8).drew, fun h => by simp at h, fun h => by simp at h, fun _ _ => H8.out.below' (Below.refl w8.heap.size w8).drew, fun h => by simp at h, fun h => by simp at h, fun h => by simp at h, fun h => by simp at h, fun h => by simp at h⟩
            · intro ls q o a w6 hq ho hS hls hcl hP hpre
              obtain ⟨hS1, hS2, hS3, hS4, hS5, hS6, hS7, hS8, hS9⟩ := hS
              have hcases : q = 0 ∨ q = 1 ∨ q = 2 ∨ q = 3 ∨ q = 4 ∨ q = 5 ∨ q = 6 ∨ q = 7 ∨ q = 8 ∨ q = 9 ∨ q = 10 ∨ q = 11 ∨ q = 12 ∨ q = 13 ∨ q = 14 ∨ q = 15 ∨ q = 16 := by
                have : q < 17 := hq
                omega
              have hasz : a.tmps.size = 275 := hP.size
              have hz6 : w8.heap.size ≤ w6.heap.size := hS1.size
              have hkp : ∀ (q t : Nat) (v : Value), q ≠ 2 → q ≠ 6 → q ≠ 7 → q ≠ 11 → q ≠ 12 → q ≠ 13 → q ≠ 14 → q ≠ 16 → t ≠ 123 → t ≠ 127 → t ≠ 128 → t ≠ 132 → t ≠ 133 → t ≠ 134 → t ≠ 135 → (BelX (fun q => q = wm.heap.size ∨ (Value.slice A R.length c).ownBlock = some q) w8 w6 ∧
            ((fun j => if q = j then true else ls j) 2 = true → (fun j => if q = j then true else ls j) 7 = false → ∃ b, slotv (a.put (some t) v) (some 123) = .slice (some ⟨b, 0, none⟩) 0 0 ∧ w8.heap.size ≤ b ∧ w6.heap[b]? = some (.cells #[] 3 (0, 0))) ∧
            ((fun j => if q = j then true else ls j) 11 = true → (fun j => if q = j then true else ls j) 12 = false → ∃ b, slotv (a.put (some t) v) (some 132) = .slice (some ⟨b, 0, none⟩) 1 1 ∧ w8.heap.size ≤ b ∧ w6.heap[b]? = some (.cells #[.int .i64 (-nb)] 3 (0, 0))) ∧
            ((fun j => if q = j then true else ls j) 14 = false → (fun j => if q = j then true else ls j) 13 = false → PS w5.heap.size wm.heap.size X F wa2 nb (.slice A R.length c) (.slice A R.length c) R w6) ∧
            ((fun j => if q = j then true else ls j) 7 = true → (fun j => if q = j then true else ls j) 12 = false → ∃ Aq cq, slotv (a.put (some t) v) (some 128) = .slice Aq u.length cq ∧ PSw F wa2 (.slice Aq u.length cq) u w6 ∧ ∀ r, (Value.slice Aq u.length cq).ownBlock = some r → w8.heap.size ≤ r) ∧
            ((fun j => if q = j then true else ls j) 12 = true → (fun j => if q = j then true else ls j) 13 = false → ∃ Aq cq, slotv (a.put (some t) v) (some 133) = .slice Aq (u.length + 1) cq ∧ PSw F wa2 (.slice Aq (u.length + 1) cq) (u ++ [-nb]) w6) ∧
            ((fun j => if q = j then true else ls j) 13 = true → (fun j => if q = j then true else ls j) 14 = false → ∃ Aq cq W1, slotv (a.put (some t) v) (some 134) = .slice (some ⟨W1.heap.size, 0, none⟩) 1 1 ∧ w6 = W1.alloc (.cells #[.slice Aq (u.length + 1) cq] 24) ∧ PS w5.heap.size wm.heap.size X F wa2 nb (.slice A R.length c) (.slice A R.length c) R W1 ∧ PSw F wa2 (.slice Aq (u.length + 1) cq) (u ++ [-nb]) W1 ∧ BelX (fun q => q = wm.heap.size ∨ (Value.slice A R.length c).ownBlock = some q) w8 W1) ∧
            ((fun j => if q = j then true else ls j) 14 = true → ∃ Aq cq F', slotv (a.put (some t) v) (some 135) = .slice Aq (R.length + 1) cq ∧ PS w5.heap.size wm.heap.size X F' wa2 nb (if (fun j => if q = j then true else ls j) 16 = true then .slice Aq (R.length + 1) cq else (.slice A R.length c)) (.slice Aq (R.length + 1) cq) (R ++ [u ++ [-nb]]) w6) ∧
            ((fun j => if q = j then true else ls j) 6 = true → (fun j => if q = j then true else ls j) 7 = false → ∃ Au cu, slotv (a.put (some t) v) (some 127) = .slice Au u.length cu ∧ IntsAt w6 (.slice Au u.length cu) u)) := fun q t v h0 h1 h2 h3 h4 h5 h6 h7 h8 h9 h10 h11 h12 h13 h14 => by
                simp only [if_neg h0, if_neg h1, if_neg h2, if_neg h3, if_neg h4, if_neg h5, if_neg h6, if_neg h7, slotv_put_ne h8, slotv_put_ne h9, slotv_put_ne h10, slotv_put_ne h11, slotv_put_ne h12, slotv_put_ne h13, slotv_put_ne h14]
                exact ⟨hS1, hS2, hS3, hS4, hS5, hS6, hS7, hS8, hS9⟩
              have hal : ∀ o : Obj, Below w6.heap.size w6 (w6.alloc o) := fun o => (Below.refl _ _).alloc (Nat.le_refl _) _
              have hbox : ls 14 = false → w6.heap[wm.heap.size]? = some (.cells #[.int .i64 nb, .slice A R.length c] 27 (0, 0)) := fun h14 => by
                cases h13 : ls 13 with
                | false => exact (hS4 h14 h13).box
                | true =>
                  obtain ⟨Aq, cq, W1, -, e, hp, -⟩ := hS7 h13 h14
                  rw [e]
                  exact (hp.below' ((Below.refl _ _).alloc (Nat.le_refl _) _)).box
              rcases hcases with rfl | rfl | rfl | rfl | rfl | rfl | rfl | rfl | rfl | rfl | rfl | rfl | rfl | rfl | rfl | rfl | rfl
              · obtain rfl := Option.some.inj ho
                exact wpOpIn_of rfl rfl (wpW_val (r_fld (.tmp 15) _ rfl (hP.out 15 (dm_out (by kernel_rfl))) (fld27_1 wm.heap.size _)) ⟨_, rfl, hkp 0 121 _ (by decide) (by decide) (by decide) (by decide) (by decide) (by decide) (by decide) (by decide) (by decide) (by decide) (by decide) (by decide) (by decide) (by decide) (by decide), trivial, (fun h => by simp at h), .inr (.inr (.inr (.inr (.inr (.inr (.inr (rfl)))))))⟩)
              · obtain rfl := Option.some.inj ho
                have n14 := not_yet hcl 14 rfl ⟨1, .data⟩ (by simp) rfl hls
                exact wpOpIn_of rfl rfl (wpW_val (r_ld25 (.tmp 121) ⟨wm.heap.size, 1, none⟩ rfl (show slotv a (some 121) = .pointer (some ⟨wm.heap.size, 1, none⟩) from by have h := (hpre ⟨0, .data⟩ (by simp) rfl).2; simpa using h) (cell_of2 (hbox n14)).2) ⟨_, rfl, hkp 1 122 _ (by decide) (by decide) (by decide) (by decide) (by decide) (by decide) (by decide) (by decide) (by decide) (by decide) (by decide) (by decide) (by decide) (by decide) (by decide), trivial, (fun h => by simp at h), .inr (.inr (.inr (.inr (.inr (.inr (.inr (rfl)))))))⟩)
              · obtain rfl := Option.some.inj ho
                have n7 := not_yet hcl 7 rfl ⟨2, .data⟩ (by simp) rfl hls
                have n12 := not_yet hcl 12 rfl ⟨7, .data⟩ (by simp) rfl n7
                have n13 := not_yet hcl 13 rfl ⟨12, .data⟩ (by simp) rfl n12
                have n14 := not_yet hcl 14 rfl ⟨13, .data⟩ (by simp) rfl n13
                refine wpOpIn_of rfl rfl (wpW_val (r_bs24e rfl) ⟨_, rfl, ⟨?_, ?_, ?_, ?_, ?_, ?_, ?_, ?_, ?_⟩, trivial, (fun h => by simp at h), .inl rfl⟩)
                · exact hS1.trans (BelX.of_below (hal _))
                · intro _ _; exact ⟨w6.heap.size, slotv_same (by rw [hasz]; decide), hz6, heap_alloc_new w6 _⟩
                · intro h h'; obtain ⟨b, e1, hb, hB⟩ := hS3 (by simpa using h) (by simpa using h')
                  exact ⟨b, (slotv_put_ne (a := a) (s := 123) (t := 132) (by decide)).trans e1, hb, ((hal _).block b (Array.getElem?_eq_some_iff.1 hB).1).trans hB⟩
                · intro h h'; exact (hS4 (by simpa using h) (by simpa using h')).below' (hal _)
                · intro h; simp [n7] at h
                · intro h; simp [n12] at h
                · intro h; simp [n13] at h
                · intro h; simp [n14] at h
                · intro h h'; obtain ⟨Au, cu, e1, hi⟩ := hS9 (by simpa using h) (by simpa using h')
                  exact ⟨Au, cu, (slotv_put_ne (a := a) (s := 123) (t := 127) (by decide)).trans e1, hi.below (hal _)⟩
              · obtain rfl := Option.some.inj ho
                exact wpOpIn_of rfl rfl (wpW_val (r_move (.tmp 23) rfl (hP.out 23 (dm_out (by kernel_rfl)))) ⟨_, rfl, hkp 3 124 _ (by decide) (by decide) (by decide) (by decide) (by decide) (by decide) (by decide) (by decide) (by decide) (by decide) (by decide) (by decide) (by decide) (by decide) (by decide), trivial, (fun h => by simp at h), .inr (.inr (.inr (.inr (.inr (.inr (.inr (rfl)))))))⟩)
              · obtain rfl := Option.some.inj ho
                exact wpOpIn_of rfl rfl (wpW_val (r_move (.tmp 22) rfl (hP.out 22 (dm_out (by kernel_rfl)))) ⟨_, rfl, hkp 4 125 _ (by decide) (by decide) (by decide) (by decide) (by decide) (by decide) (by decide) (by decide) (by decide) (by decide) (by decide) (by decide) (by decide) (by decide) (by decide), trivial, (fun h => by simp at h), .inr (.inr (.inr (.inr (.inr (.inr (.inr (rfl)))))))⟩)
              · obtain rfl := Option.some.inj ho
                exact wpOpIn_of rfl rfl (wpW_val (r_idx (.tmp 124) (.tmp 125) _ _ rfl (show slotv a (some 124) = .slice (some ⟨br, or_, none⟩) WD.length c2 from by have h := (hpre ⟨3, .data⟩ (by simp) rfl).2; simpa using h) (show slotv a (some 125) = .int .i64 (k : Int) from by have h := (hpre ⟨4, .data⟩ (by simp) rfl).2; simpa using h) (idx25 br or_ WD.length c2 k hk3 _)) ⟨_, rfl, hkp 5 126 _ (by decide) (by decide) (by decide) (by decide) (by decide) (by decide) (by decide) (by decide) (by decide) (by decide) (by decide) (by decide) (by decide) (by decide) (by decide), trivial, (fun h => by simp at h), .inr (.inr (.inr (.inr (.inr (.inr (.inr (rfl)))))))⟩)
              · obtain rfl := Option.some.inj ho
                have n7 := not_yet hcl 7 rfl ⟨6, .data⟩ (by simp) rfl hls
                have n12 := not_yet hcl 12 rfl ⟨7, .data⟩ (by simp) rfl n7
                have n13 := not_yet hcl 13 rfl ⟨12, .data⟩ (by simp) rfl n12
                have n14 := not_yet hcl 14 rfl ⟨13, .data⟩ (by simp) rfl n13
                obtain ⟨Au, cu, hcu, hiu⟩ := HTR2.out w6 (hS4 n14 n13).ag
                refine wpOpIn_of rfl rfl (wpW_val (r_ld24 (.tmp 126) ⟨br, or_ + k, none⟩ rfl (show slotv a (some 126) = .pointer (some ⟨br, or_ + k, none⟩) from by have h := (hpre ⟨5, .data⟩ (by simp) rfl).2; simpa using h) hcu) ⟨_, rfl, ⟨?_, ?_, ?_, ?_, ?_, ?_, ?_, ?_, ?_⟩, trivial, (fun h => by simp at h), .inr (.inl rfl)⟩)
                · exact hS1
                · intro h h'; obtain ⟨b, e1, hb, hB⟩ := hS2 (by simpa using h) (by simpa using h')
                  exact ⟨b, (slotv_put_ne (a := a) (s := 127) (t := 123) (by decide)).trans e1, hb, hB⟩
                · intro h h'; obtain ⟨b, e1, hb, hB⟩ := hS3 (by simpa using h) (by simpa using h')
                  exact ⟨b, (slotv_put_ne (a := a) (s := 127) (t := 132) (by decide)).trans e1, hb, hB⟩
                · intro h h'; exact hS4 (by simpa using h) (by simpa using h')
                · intro h; simp [n7] at h
                · intro h; simp [n12] at h
                · intro h; simp [n13] at h
                · intro h; simp [n14] at h
                · intro _ _; exact ⟨Au, cu, slotv_same (by rw [hasz]; decide), hiu⟩
              · obtain rfl := Option.some.inj ho
                have n12 := not_yet hcl 12 rfl ⟨7, .data⟩ (by simp) rfl hls
                have n13 := not_yet hcl 13 rfl ⟨12, .data⟩ (by simp) rfl n12
                have n14 := not_yet hcl 14 rfl ⟨13, .data⟩ (by simp) rfl n13
                have h2 := (hpre ⟨2, .data⟩ (by simp) rfl).1
                have h6 := (hpre ⟨6, .data⟩ (by simp) rfl).1
                obtain ⟨b, e2, hb2, hB2⟩ := hS2 h2 hls
                obtain ⟨Au, cu, e9, hi9⟩ := hS9 h6 hls
                have hp4 := hS4 n14 n13
                obtain ⟨A', c', w7, hrun, hP7, hw7, hg7, hob⟩ := (psw_empty (F := F) (wa := wa2) (Nat.le_trans H8.out.below.size hb2) hB2 fun hF => by have := (H8.out.fs _ hF).2.1; omega).cat hp4 24 Try.underlying24 hi9 (by simp) (by have := HU12.out; omega)
                rw [List.nil_append] at hrun hw7 hob
                have hbb : ∀ r, (Value.slice (some ⟨b, 0, none⟩) 0 0).ownBlock = some r → r = b := fun r hr => by cases hr; rfl
                refine wpOpIn_of rfl rfl (wpW_val (r_app (.tmp 123) (.tmp 127) 24 rfl e2 e9 hrun) ⟨_, rfl, ⟨?_, ?_, ?_, ?_, ?_, ?_, ?_, ?_, ?_⟩, trivial, (fun h => by simp at h), .inr (.inr (.inl rfl))⟩)
                · exact belx_grown hS1 hg7 fun r hr => .inr (by rw [hbb r hr]; exact hb2)
                · intro _ h'; simp at h'
                · intro h h'; obtain ⟨b3, e3, hb3, hB3⟩ := hS3 (by simpa using h) (by simpa using h')
                  exact ⟨b3, (slotv_put_ne (a := a) (s := 128) (t := 132) (by decide)).trans e3, hb3, (hg7.block b3 (Array.getElem?_eq_some_iff.1 hB3).1 fun e => by
                    have := hbb _ e.symm
                    subst this
                    rw [hB2] at hB3
                    simp at hB3).trans hB3⟩
                · intro _ _; exact hP7
                · intro _ _; exact ⟨A', c', slotv_same (by rw [hasz]; decide), hw7, fun r hr => by
                    rcases hob r hr with h | h
                    · rw [hbb r h]; exact hb2
                    · omega⟩
                · intro h; simp [n12] at h
                · intro h; simp [n13] at h
                · intro h; simp [n14] at h
                · intro _ h'; simp at h'
              · obtain rfl := Option.some.inj ho
                exact wpOpIn_of rfl rfl (wpW_val (r_fld (.tmp 15) _ rfl (hP.out 15 (dm_out (by kernel_rfl))) (fld27_0 wm.heap.size _)) ⟨_, rfl, hkp 8 129 _ (by decide) (by decide) (by decide) (by decide) (by decide) (by decide) (by decide) (by decide) (by decide) (by decide) (by decide) (by decide) (by decide) (by decide) (by decide), trivial, (fun h => by simp at h), .inr (.inr (.inr (.inr (.inr (.inr (.inr (rfl)))))))⟩)
              · obtain rfl := Option.some.inj ho
                have n10 := not_yet hcl 10 rfl ⟨9, .data⟩ (by simp) rfl hls
                have n11 := not_yet hcl 11 rfl ⟨10, .data⟩ (by simp) rfl n10
                have n12 := not_yet hcl 12 rfl ⟨11, .data⟩ (by simp) rfl n11
                have n13 := not_yet hcl 13 rfl ⟨12, .data⟩ (by simp) rfl n12
                have n14 := not_yet hcl 14 rfl ⟨13, .data⟩ (by simp) rfl n13
                exact wpOpIn_of rfl rfl (wpW_val (r_load1 3 agg3 (.tmp 129) ⟨wm.heap.size, 0, none⟩ rfl (show slotv a (some 129) = .pointer (some ⟨wm.heap.size, 0, none⟩) from by have h := (hpre ⟨8, .data⟩ (by simp) rfl).2; simpa using h) (cell_of2 (hbox n14)).1) ⟨_, rfl, hkp 9 130 _ (by decide) (by decide) (by decide) (by decide) (by decide) (by decide) (by decide) (by decide) (by decide) (by decide) (by decide) (by decide) (by decide) (by decide) (by decide), trivial, (fun h => by simp at h), .inr (.inr (.inr (.inr (.inr (.inr (.inr (rfl)))))))⟩)
              · obtain rfl := Option.some.inj ho
                exact wpOpIn_of rfl rfl (wpW_val (r_neg (.tmp 130) nb rfl (show slotv a (some 130) = .int .i64 nb from by have h := (hpre ⟨9, .data⟩ (by simp) rfl).2; simpa using h) (by have := HNB.out; omega)) ⟨_, rfl, hkp 10 131 _ (by decide) (by decide) (by decide) (by decide) (by decide) (by decide) (by decide) (by decide) (by decide) (by decide) (by decide) (by decide) (by decide) (by decide) (by decide), trivial, (fun h => by simp at h), .inr (.inr (.inr (.inr (.inr (.inr (.inr (rfl)))))))⟩)
              · obtain rfl := Option.some.inj ho
                have n12 := not_yet hcl 12 rfl ⟨11, .data⟩ (by simp) rfl hls
                have n13 := not_yet hcl 13 rfl ⟨12, .data⟩ (by simp) rfl n12
                have n14 := not_yet hcl 14 rfl ⟨13, .data⟩ (by simp) rfl n13
                refine wpOpIn_of rfl rfl (wpW_val (r_bs24_1 (.tmp 131) (-nb) rfl (show slotv a (some 131) = .int .i64 (-nb) from by have h := (hpre ⟨10, .data⟩ (by simp) rfl).2; simpa using h)) ⟨_, rfl, ⟨?_, ?_, ?_, ?_, ?_, ?_, ?_, ?_, ?_⟩, trivial, (fun h => by simp at h), .inr (.inr (.inr (.inl rfl)))⟩)
                · exact hS1.trans (BelX.of_below (hal _))
                · intro h h'; obtain ⟨b, e1, hb, hB⟩ := hS2 (by simpa using h) (by simpa using h')
                  exact ⟨b, (slotv_put_ne (a := a) (s := 132) (t := 123) (by decide)).trans e1, hb, ((hal _).block b (Array.getElem?_eq_some_iff.1 hB).1).trans hB⟩
                · intro _ _; exact ⟨w6.heap.size, slotv_same (by rw [hasz]; decide), hz6, heap_alloc_new w6 _⟩
                · intro h h'; exact (hS4 (by simpa using h) (by simpa using h')).below' (hal _)
                · intro h h'; obtain ⟨Aq, cq, e1, hw, hb⟩ := hS5 (by simpa using h) (by simpa using h')
                  exact ⟨Aq, cq, (slotv_put_ne (a := a) (s := 132) (t := 128) (by decide)).trans e1, hw.below' (hal _), hb⟩
                · intro h; simp [n12] at h
                · intro h; simp [n13] at h
                · intro h; simp [n14] at h
                · intro h h'; obtain ⟨Au, cu, e1, hi⟩ := hS9 (by simpa using h) (by simpa using h')
                  exact ⟨Au, cu, (slotv_put_ne (a := a) (s := 132) (t := 127) (by decide)).trans e1, hi.below (hal _)⟩
              · obtain rfl := Option.some.inj ho
                have n13 := not_yet hcl 13 rfl ⟨12, .data⟩ (by simp) rfl hls
                have n14 := not_yet hcl 14 rfl ⟨13, .data⟩ (by simp) rfl n13
                have h7 := (hpre ⟨7, .data⟩ (by simp) rfl).1
                have h11 := (hpre ⟨11, .data⟩ (by simp) rfl).1
                obtain ⟨Aq, cq, e5, hw5, hb5⟩ := hS5 h7 hls
                obtain ⟨b, e3, hb3, hB3⟩ := hS3 h11 hls
                have hi3 : IntsAt w6 (.slice (some ⟨b, 0, none⟩) 1 1) [-nb] := ints_blk (xs := [-nb]) hB3 (fun y hy => by rw [List.mem_singleton.1 hy]; have := HNB.out; omega) rfl (by omega)
                obtain ⟨A', c', w7, hrun, hP7, hw7, hg7, hob⟩ := hw5.cat (hS4 n14 n13) 24 Try.underlying24 hi3 (by have := HU12.out; omega) (by simp)
                rw [List.length_append, List.length_singleton] at hrun hw7
                refine wpOpIn_of rfl rfl (wpW_val (r_app (.tmp 128) (.tmp 132) 24 rfl e5 e3 hrun) ⟨_, rfl, ⟨?_, ?_, ?_, ?_, ?_, ?_, ?_, ?_, ?_⟩, trivial, (fun h => by simp at h), .inr (.inr (.inr (.inr (.inl rfl))))⟩)
                · exact belx_grown hS1 hg7 fun r hr => .inr (hb5 r hr)
                · intro _ h'; simp [(hpre ⟨7, .data⟩ (by simp) rfl).1] at h'
                · intro _ h'; simp at h'
                · intro _ _; exact hP7
                · intro _ h'; simp at h'
                · intro _ _; exact ⟨A', c', slotv_same (by rw [hasz]; decide), hw7⟩
                · intro h; simp [n13] at h
                · intro h; simp [n14] at h
                · intro _ h'; simp [(hpre ⟨7, .data⟩ (by simp) rfl).1] at h'
              · obtain rfl := Option.some.inj ho
                have n14 := not_yet hcl 14 rfl ⟨13, .data⟩ (by simp) rfl hls
                have h12 := (hpre ⟨12, .data⟩ (by simp) rfl).1
                have h7 : ls 7 = true := hcl 12 _ rfl h12 ⟨7, .data⟩ (by simp) rfl
                obtain ⟨Aq, cq, e6, hw6⟩ := hS6 h12 hls
                refine wpOpIn_of rfl rfl (wpW_val (r_bs25_1 (.tmp 133) Aq (u.length + 1) cq rfl e6) ⟨_, rfl, ⟨?_, ?_, ?_, ?_, ?_, ?_, ?_, ?_, ?_⟩, trivial, (fun h => by simp at h), .inr (.inr (.inr (.inr (.inr (.inl rfl)))))⟩)
                · exact hS1.trans (BelX.of_below (hal _))
                · intro _ h'; simp [h7] at h'
                · intro _ h'; simp [h12] at h'
                · intro _ h'; simp at h'
                · intro _ h'; simp [h12] at h'
                · intro _ h'; simp at h'
                · intro _ _; exact ⟨Aq, cq, w6, slotv_same (by rw [hasz]; decide), rfl, hS4 n14 hls, hw6, hS1⟩
                · intro h; simp [n14] at h
                · intro _ h'; simp [h7] at h'
              · obtain rfl := Option.some.inj ho
                have n16 := not_yet hcl 16 rfl ⟨14, .data⟩ (by simp) rfl hls
                have h13 := (hpre ⟨13, .data⟩ (by simp) rfl).1
                have h12 : ls 12 = true := hcl 13 _ rfl h13 ⟨12, .data⟩ (by simp) rfl
                have h7 : ls 7 = true := hcl 12 _ rfl h12 ⟨7, .data⟩ (by simp) rfl
                obtain ⟨Aq, cq, W1, e7, rfl, hp7, hw7, hb7⟩ := hS7 h13 hls
                obtain ⟨A', c', w7, hrun, hP7, hg7⟩ := hp7.push hw7 HFU.out (by have := HX1.out.2.2.2.1; omega)
                refine wpOpIn_of rfl rfl (wpW_val (r_app (.tmp 122) (.tmp 134) 25 rfl (show slotv a (some 122) = .slice A R.length c from by have h := (hpre ⟨1, .data⟩ (by simp) rfl).2; simpa using h) e7 hrun) ⟨_, rfl, ⟨?_, ?_, ?_, ?_, ?_, ?_, ?_, ?_, ?_⟩, trivial, (fun h => by simp at h), .inr (.inr (.inr (.inr (.inr (.inr (.inl rfl))))))⟩)
                · exact hb7.trans (BelX.of_grown hg7 fun r hr => .inr hr)
                · intro _ h'; simp [h7] at h'
                · intro _ h'; simp [h12] at h'
                · intro h; simp at h
                · intro _ h'; simp [h12] at h'
                · intro _ h'; simp [h13] at h'
                · intro _ h'; simp at h'
                · intro _; exact ⟨A', c', _, slotv_same (by rw [hasz]; decide), by simpa [n16] using hP7⟩
                · intro _ h'; simp [h7] at h'
              · obtain rfl := Option.some.inj ho
                exact wpOpIn_of rfl rfl (wpW_val (r_fld (.tmp 15) _ rfl (hP.out 15 (dm_out (by kernel_rfl))) (fld27_1 wm.heap.size _)) ⟨_, rfl, hkp 15 136 _ (by decide) (by decide) (by decide) (by decide) (by decide) (by decide) (by decide) (by decide) (by decide) (by decide) (by decide) (by decide) (by decide) (by decide) (by decide), trivial, (fun h => by simp at h), .inr (.inr (.inr (.inr (.inr (.inr (.inr (rfl)))))))⟩)
              · obtain rfl := Option.some.inj ho
                have h14 := (hpre ⟨14, .data⟩ (by simp) rfl).1
                have h13 : ls 13 = true := hcl 14 _ rfl h14 ⟨13, .data⟩ (by simp) rfl
                have h12 : ls 12 = true := hcl 13 _ rfl h13 ⟨12, .data⟩ (by simp) rfl
                have h7 : ls 7 = true := hcl 12 _ rfl h12 ⟨7, .data⟩ (by simp) rfl
                obtain ⟨Aq, cq, F', e14, hp⟩ := hS8 h14
                rw [if_neg (by rw [hls]; simp)] at hp
                have hf : w6.frozen? ⟨wm.heap.size, 1, none⟩ = false := frozen_row hp.box 1
                refine wpOpIn_of rfl rfl (wpW_skip (r_store1 25 (.tmp 136) (.tmp 135) ⟨wm.heap.size, 1, none⟩ _ (.slice Aq (R.length + 1) cq) rfl (show slotv a (some 136) = .pointer (some ⟨wm.heap.size, 1, none⟩) from by have h := (hpre ⟨15, .data⟩ (by simp) rfl).2; simpa using h) e14 rfl (cell_of2 hp.box).2 hf (st25 _ _ _ _ _ (cell_of2 hp.box).2 hf)) ⟨undef, rfl, ⟨?_, ?_, ?_, ?_, ?_, ?_, ?_, ?_, ?_⟩, trivial, (fun _ => rfl), .inr (.inr (.inr (.inr (.inr (.inr (.inr (rfl)))))))⟩)
                · exact hS1.trans (BelX.of_grown (grown_setCell w6 wm.heap.size 1 _) fun r hr => by cases hr; exact .inl rfl)
                · intro _ h'; simp [h7] at h'
                · intro _ h'; simp [h12] at h'
                · intro h'; simp [h14] at h'
                · intro _ h'; simp [h12] at h'
                · intro _ h'; simp [h13] at h'
                · intro _ h'; simp [h14] at h'
                · intro _; exact ⟨Aq, cq, F', e14, by simpa using hp.put (k := 1) (z := .slice Aq (R.length + 1) cq) rfl⟩
                · intro _ h'; simp [h7] at h'
            · intro ls a W6 hall hS hP hsl
              obtain ⟨hS1, -, -, -, -, -, -, hS8, -⟩ := hS
              obtain ⟨Aq, cq, F', -, hp⟩ := hS8 (hall 14 (by decide))
              rw [if_pos (hall 16 (by decide))] at hp
              have HB6 := Lib.hid hS1
              have HP6 := Lib.hid hp
              obtain ⟨vs, hvs, hfr⟩ := hP.frame 275 rfl
              clear hsl hP hall hvs hS1 hS8 hp
              subst hfr
              have hno : ∀ n : Nat, ((none : Option Nat) == some n) = false := fun _ => rfl
              simp only [hno, List.range, List.range.loop, List.map_cons, List.map_nil, List.any_cons, List.any_nil, Nat.reduceAdd, Nat.reduceBEq, Nat.reduceLT, Option.some_beq_some, Bool.or_false, if_true, if_false, List.getD_cons_zero, List.getD_cons_succ, Bool.or_true, Bool.false_eq_true]
              go_upto_region 23 with fail
              have HMS6 := Lib.hid (HMS8.out.box H8.out (Nat.le_refl _) HB6.out)
              have HB56 : Hid (w5.heap.size ≤ W6.heap.size) := Lib.hid HP6.out.bnd
              obtain ⟨g, rfl, hcm, htm⟩ := HMS6.out.cut HKL.out.symm (by omega)
              rw [HX1.out.2.2.1] at htm
              have HCM : Hid (2 ≤ cm) := Lib.hid hcm
              have HFI : Hid (Fits (nz (imgP M d u))) := Lib.hid (fits_nz fun x hx => by
                have := (imgP_prm HMP.out (w := u) (by rw [HML.out]; exact HU.out)).lt x hx
                have := HD5.out.2
                omega)
              have HIM : Hid (∀ Au cu, IntsAt W6.drew (.slice Au u.length cu) u → Calls Try.prog 17 #[.slice (some ⟨g, 0, none⟩) 2 cm, .slice Au u.length cu] W6.drew fun e w'' => ∃ v, e = .returned v ∧ ∃ Ai ci, v = .slice Ai d ci ∧ OwnI W6.heap.size w'' (.slice Ai d ci) (nz (imgP M d u)) ∧ Below W6.heap.size W6.drew w'') := Lib.hid fun Au cu hi => (image17_any W6.drew _ _ M d u ⟨HD5.out.1, by have := HD5.out.2; omega⟩ HMP.out (by rw [HML.out]; decide) (kept_tab.below htm (Below.refl W6.heap.size W6).drew) hi (by rw [HML.out]; exact HU.out)).mono fun e w'' ⟨⟨Ai, ci, e1, _, h2⟩, h3⟩ => ⟨_, e1, Ai, ci, rfl, h2, h3⟩
              have H14 : Hid (∀ ls : Nat → Bool, ls 10 = false → ∀ i, i < 11 → ls i = true → (fun i => if i < 10 then some (137 + i) else some 14) i ≠ some 14) := Lib.hid fun ls n10 i hi hl e => by
                by_cases h : i < 10
                · simp [h] at e
                  omega
                · obtain rfl : i = 10 := by omega
                  rw [n10] at hl
                  cases hl
              clear hcm htm
              refine (wpIn_wide (n := 3)).1 ?_
              refine wpIn_region_act (by kernel_rfl) 11 rfl (fun i => if i < 10 then some (137 + i) else some 14) (lex_of (by kernel_rfl))
                (fun ls a W => BelX (fun q => (Value.slice (some ⟨g, 0, none⟩) (2 + k) cm).ownBlock = some q) W6 W ∧
            (ls 6 = true → ls 7 = false → ∃ Au cu, slotv a (some 143) = .slice Au u.length cu ∧ IntsAt W (.slice Au u.length cu) u) ∧
            (ls 7 = false → W = W6.drew) ∧
            (ls 7 = true → ls 8 = false → ∃ Ai ci, slotv a (some 144) = .slice Ai d ci ∧ Below W6.heap.size W6 W ∧ OwnI W6.heap.size W (.slice Ai d ci) (nz (imgP M d u))) ∧
            (ls 8 = true → ls 9 = false → ∃ Ai ci W1, slotv a (some 145) = .slice (some ⟨W1.heap.size, 0, none⟩) 1 1 ∧ W = W1.alloc (.cells #[.slice Ai d ci] 40) ∧ Below W6.heap.size W6 W1 ∧ OwnI W6.heap.size W1 (.slice Ai d ci) (nz (imgP M d u))) ∧
            (ls 9 = true → ∃ A' c' FM', slotv a (some 146) = .slice A' (2 + k + 1) c' ∧ MS w5.heap.size FM' (.slice A' (2 + k + 1) c') (Mk ++ [imgP M d u]) W ∧ PS w5.heap.size wm.heap.size X F' wa2 nb (.slice Aq (R.length + 1) cq) (.slice Aq (R.length + 1) cq) (R ++ [u ++ [-nb]]) W) ∧
            (ls 10 = true → slotv a (some 14) = slotv a (some 146)))
                (fun i v _ => i = 6 ∨ i = 7 ∨ i = 8 ∨ i = 9 ∨ i = 10 ∨ v = ([.slice (some ⟨g, 0, none⟩) (2 + k) cm, .slice (some ⟨g, 0, none⟩) (2 + k) cm, .slice (some ⟨g, 0, none⟩) 2 cm, .slice (some ⟨br, or_, none⟩) WD.length c2, .int .i64 (k : Int), .pointer (some ⟨br, or_ + k, none⟩), undef, undef, undef, undef, undef] : List Value).getD i undef)
                (fun _ _ _ => True) (dm_inj (by kernel_rfl)) (fun _ _ _ _ _ _ _ _ _ h => h) (dm_lt (n := 275) (by kernel_rfl)) ?_ ?_ ?_
              · exact ⟨BelX.of_below (Below.refl W6.heap.size W6).drew, fun h => by simp at h, fun _ => rfl, fun h => by simp at h, fun h => by simp at h, fun h => by simp at h, fun h => by simp at h⟩
              · intro ls q o a w6 hq ho hS hls hcl hP hpre
                obtain ⟨hS1, hS2, hS3, hS4, hS5, hS6, hS7⟩ := hS
                have hcases : q = 0 ∨ q = 1 ∨ q = 2 ∨ q = 3 ∨ q = 4 ∨ q = 5 ∨ q = 6 ∨ q = 7 ∨ q = 8 ∨ q = 9 ∨ q = 10 := by
                  have : q < 11 := hq
                  omega
                have hasz : a.tmps.size = 275 := hP.size
                have hkp : ∀ (q t : Nat) (v : Value), q ≠ 6 → q ≠ 7 → q ≠ 8 → q ≠ 9 → q ≠ 10 → t ≠ 143 → t ≠ 144 → t ≠ 145 → t ≠ 146 → t ≠ 14 → (BelX (fun q => (Value.slice (some ⟨g, 0, none⟩) (2 + k) cm).ownBlock = some q) W6 w6 ∧
            ((fun j => if q = j then true else ls j) 6 = true → (fun j => if q = j then true else ls j) 7 = false → ∃ Au cu, slotv (a.put (some t) v) (some 143) = .slice Au u.length cu ∧ IntsAt w6 (.slice Au u.length cu) u) ∧
            ((fun j => if q = j then true else ls j) 7 = false → w6 = W6.drew) ∧
            ((fun j => if q = j then true else ls j) 7 = true → (fun j => if q = j then true else ls j) 8 = false → ∃ Ai ci, slotv (a.put (some t) v) (some 144) = .slice Ai d ci ∧ Below W6.heap.size W6 w6 ∧ OwnI W6.heap.size w6 (.slice Ai d ci) (nz (imgP M d u))) ∧
            ((fun j => if q = j then true else ls j) 8 = true → (fun j => if q = j then true else ls j) 9 = false → ∃ Ai ci W1, slotv (a.put (some t) v) (some 145) = .slice (some ⟨W1.heap.size, 0, none⟩) 1 1 ∧ w6 = W1.alloc (.cells #[.slice Ai d ci] 40) ∧ Below W6.heap.size W6 W1 ∧ OwnI W6.heap.size W1 (.slice Ai d ci) (nz (imgP M d u))) ∧
            ((fun j => if q = j then true else ls j) 9 = true → ∃ A' c' FM', slotv (a.put (some t) v) (some 146) = .slice A' (2 + k + 1) c' ∧ MS w5.heap.size FM' (.slice A' (2 + k + 1) c') (Mk ++ [imgP M d u]) w6 ∧ PS w5.heap.size wm.heap.size X F' wa2 nb (.slice Aq (R.length + 1) cq) (.slice Aq (R.length + 1) cq) (R ++ [u ++ [-nb]]) w6) ∧
            ((fun j => if q = j then true else ls j) 10 = true → slotv (a.put (some t) v) (some 14) = slotv (a.put (some t) v) (some 146))) := fun q t v h0 h1 h2 h3 h4 h5 h6 h7 h8 h9 => by
                  simp only [if_neg h0, if_neg h1, if_neg h2, if_neg h3, if_neg h4, slotv_put_ne h5, slotv_put_ne h6, slotv_put_ne h7, slotv_put_ne h8, slotv_put_ne h9]
                  exact ⟨hS1, hS2, hS3, hS4, hS5, hS6, hS7⟩
                have hal : ∀ o : Obj, Below w6.heap.size w6 (w6.alloc o) := fun o => (Below.refl _ _).alloc (Nat.le_refl _) _
                rcases hcases with rfl | rfl | rfl | rfl | rfl | rfl | rfl | rfl | rfl | rfl | rfl
                · obtain rfl := Option.some.inj ho
                  have n9 := not_yet hcl 9 rfl ⟨0, .data⟩ (by simp) rfl hls
                  have n10 := not_yet hcl 10 rfl ⟨9, .data⟩ (by simp) rfl n9
                  have e14 : a.eval (.tmp 14) = .slice (some ⟨g, 0, none⟩) (2 + k) cm := (hP.out 14 (H14.out ls n10)).trans rfl
                  exact wpOpIn_of rfl rfl (wpW_val (r_move (.tmp 14) rfl e14) ⟨_, rfl, hkp 0 137 _ (by decide) (by decide) (by decide) (by decide) (by decide) (by decide) (by decide) (by decide) (by decide) (by decide), trivial, (fun h => by simp at h), .inr (.inr (.inr (.inr (.inr (rfl)))))⟩)
                · obtain rfl := Option.some.inj ho
                  have n2 := not_yet hcl 2 rfl ⟨1, .data⟩ (by simp) rfl hls
                  have n7 := not_yet hcl 7 rfl ⟨2, .data⟩ (by simp) rfl n2
                  have n8 := not_yet hcl 8 rfl ⟨7, .data⟩ (by simp) rfl n7
                  have n9 := not_yet hcl 9 rfl ⟨8, .data⟩ (by simp) rfl n8
                  have n10 := not_yet hcl 10 rfl ⟨9, .data⟩ (by simp) rfl n9
                  have e14 : a.eval (.tmp 14) = .slice (some ⟨g, 0, none⟩) (2 + k) cm := (hP.out 14 (H14.out ls n10)).trans rfl
                  exact wpOpIn_of rfl rfl (wpW_val (r_move (.tmp 14) rfl e14) ⟨_, rfl, hkp 1 138 _ (by decide) (by decide) (by decide) (by decide) (by decide) (by decide) (by decide) (by decide) (by decide) (by decide), trivial, (fun h => by simp at h), .inr (.inr (.inr (.inr (.inr (rfl)))))⟩)
                · obtain rfl := Option.some.inj ho
                  exact wpOpIn_of rfl rfl (wpW_val (r_cut42 (.tmp 138) g 0 (2 + k) cm rfl (show slotv a (some 138) = .slice (some ⟨g, 0, none⟩) (2 + k) cm from by have h := (hpre ⟨1, .data⟩ (by simp) rfl).2; simpa using h) HCM.out) ⟨_, rfl, hkp 2 139 _ (by decide) (by decide) (by decide) (by decide) (by decide) (by decide) (by decide) (by decide) (by decide) (by decide), trivial, (fun h => by simp at h), .inr (.inr (.inr (.inr (.inr (rfl)))))⟩)
                · obtain rfl := Option.some.inj ho
                  exact wpOpIn_of rfl rfl (wpW_val (r_move (.tmp 23) rfl (hP.out 23 (dm_out (by kernel_rfl)))) ⟨_, rfl, hkp 3 140 _ (by decide) (by decide) (by decide) (by decide) (by decide) (by decide) (by decide) (by decide) (by decide) (by decide), trivial, (fun h => by simp at h), .inr (.inr (.inr (.inr (.inr (rfl)))))⟩)
                · obtain rfl := Option.some.inj ho
                  exact wpOpIn_of rfl rfl (wpW_val (r_move (.tmp 22) rfl (hP.out 22 (dm_out (by kernel_rfl)))) ⟨_, rfl, hkp 4 141 _ (by decide) (by decide) (by decide) (by decide) (by decide) (by decide) (by decide) (by decide) (by decide) (by decide), trivial, (fun h => by simp at h), .inr (.inr (.inr (.inr (.inr (rfl)))))⟩)
                · obtain rfl := Option.some.inj ho
                  exact wpOpIn_of rfl rfl (wpW_val (r_idx (.tmp 140) (.tmp 141) _ _ rfl (show slotv a (some 140) = .slice (some ⟨br, or_, none⟩) WD.length c2 from by have h := (hpre ⟨3, .data⟩ (by simp) rfl).2; simpa using h) (show slotv a (some 141) = .int .i64 (k : Int) from by have h := (hpre ⟨4, .data⟩ (by simp) rfl).2; simpa using h) (idx25 br or_ WD.length c2 k hk3 _)) ⟨_, rfl, hkp 5 142 _ (by decide) (by decide) (by decide) (by decide) (by decide) (by decide) (by decide) (by decide) (by decide) (by decide), trivial, (fun h => by simp at h), .inr (.inr (.inr (.inr (.inr (rfl)))))⟩)
                · obtain rfl := Option.some.inj ho
                  have n7 := not_yet hcl 7 rfl ⟨6, .data⟩ (by simp) rfl hls
                  have n8 := not_yet hcl 8 rfl ⟨7, .data⟩ (by simp) rfl n7
                  have n9 := not_yet hcl 9 rfl ⟨8, .data⟩ (by simp) rfl n8
                  have n10 := not_yet hcl 10 rfl ⟨9, .data⟩ (by simp) rfl n9
                  obtain ⟨Au, cu, hcu, hiu⟩ := HTR2.out w6 (by rw [hS3 n7]; exact (HP6.out.below' (Below.refl W6.heap.size W6).drew).ag)
                  refine wpOpIn_of rfl rfl (wpW_val (r_ld24 (.tmp 142) ⟨br, or_ + k, none⟩ rfl (show slotv a (some 142) = .pointer (some ⟨br, or_ + k, none⟩) from by have h := (hpre ⟨5, .data⟩ (by simp) rfl).2; simpa using h) hcu) ⟨_, rfl, ⟨?_, ?_, ?_, ?_, ?_, ?_, ?_⟩, trivial, (fun h => by simp at h), .inl rfl⟩)
                  · exact hS1
                  · intro _ _; exact ⟨Au, cu, slotv_same (by rw [hasz]; decide), hiu⟩
                  · intro h; exact hS3 (by simpa using h)
                  · intro h; simp [n7] at h
                  · intro h; simp [n8] at h
                  · intro h; simp [n9] at h
                  · intro h; simp [n10] at h
                · obtain rfl := Option.some.inj ho
                  have n8 := not_yet hcl 8 rfl ⟨7, .data⟩ (by simp) rfl hls
                  have n9 := not_yet hcl 9 rfl ⟨8, .data⟩ (by simp) rfl n8
                  have n10 := not_yet hcl 10 rfl ⟨9, .data⟩ (by simp) rfl n9
                  have h6 := (hpre ⟨6, .data⟩ (by simp) rfl).1
                  obtain ⟨Au, cu, e9, hi9⟩ := hS2 h6 hls
                  have hw6 := hS3 hls
                  subst hw6
                  refine wpOpIn_of rfl rfl (wpW_call (r_call2 (.tmp 139) (.tmp 143) _ _ _ rfl (show slotv a (some 139) = .slice (some ⟨g, 0, none⟩) 2 cm from by have h := (hpre ⟨2, .data⟩ (by simp) rfl).2; simpa using h) e9 call17) (HIM.out Au cu hi9) fun v w7 hR => ?_)
                  obtain ⟨Ai, ci, rfl, hown, hb⟩ := hR
                  refine ⟨_, rfl, ⟨?_, ?_, ?_, ?_, ?_, ?_, ?_⟩, trivial, (fun h => by simp at h), .inr (.inl rfl)⟩
                  · exact hS1.trans (BelX.of_below hb)
                  · intro _ h'; simp at h'
                  · intro h; simp at h
                  · intro _ _; exact ⟨Ai, ci, slotv_same (by rw [hasz]; decide), (Below.refl W6.heap.size W6).drew.trans hb, hown⟩
                  · intro h; simp [n8] at h
                  · intro h; simp [n9] at h
                  · intro h; simp [n10] at h
                · obtain rfl := Option.some.inj ho
                  have n9 := not_yet hcl 9 rfl ⟨8, .data⟩ (by simp) rfl hls
                  have n10 := not_yet hcl 10 rfl ⟨9, .data⟩ (by simp) rfl n9
                  have h7 := (hpre ⟨7, .data⟩ (by simp) rfl).1
                  obtain ⟨Ai, ci, e4, hb4, ho4⟩ := hS4 h7 hls
                  refine wpOpIn_of rfl rfl (wpW_val (r_bs42_1 (.tmp 144) Ai d ci rfl e4) ⟨_, rfl, ⟨?_, ?_, ?_, ?_, ?_, ?_, ?_⟩, trivial, (fun h => by simp at h), .inr (.inr (.inl rfl))⟩)
                  · exact hS1.trans (BelX.of_below (hal _))
                  · intro _ h'; simp [h7] at h'
                  · intro h; simp [h7] at h
                  · intro _ h'; simp at h'
                  · intro _ _; exact ⟨Ai, ci, w6, slotv_same (by rw [hasz]; decide), rfl, hb4, ho4⟩
                  · intro h; simp [n9] at h
                  · intro h; simp [n10] at h
                · obtain rfl := Option.some.inj ho
                  have n10 := not_yet hcl 10 rfl ⟨9, .data⟩ (by simp) rfl hls
                  have h8 := (hpre ⟨8, .data⟩ (by simp) rfl).1
                  have h7 : ls 7 = true := hcl 8 _ rfl h8 ⟨7, .data⟩ (by simp) rfl
                  obtain ⟨Ai, ci, W1, e5, rfl, hb5, ho5⟩ := hS5 h8 hls
                  obtain ⟨A', c', w7, hrun, hM7, hg7⟩ := (HMS6.out.below' hb5).push ho5 HFI.out (by rw [HKL.out]; omega) (Nat.le_trans HB56.out hb5.size)
                  rw [HKL.out] at hrun hM7
                  refine wpOpIn_of rfl rfl (wpW_val (r_app (.tmp 137) (.tmp 145) 42 rfl (show slotv a (some 137) = .slice (some ⟨g, 0, none⟩) (2 + k) cm from by have h := (hpre ⟨0, .data⟩ (by simp) rfl).2; simpa using h) e5 hrun) ⟨_, rfl, ⟨?_, ?_, ?_, ?_, ?_, ?_, ?_⟩, trivial, (fun h => by simp at h), .inr (.inr (.inr (.inl rfl)))⟩)
                  · exact (BelX.of_below hb5).trans (BelX.of_grown hg7 fun r hr => hr)
                  · intro _ h'; simp [h7] at h'
                  · intro h; simp [h7] at h
                  · intro _ h'; simp [h8] at h'
                  · intro _ h'; simp at h'
                  · intro _; exact ⟨A', c', _, slotv_same (by rw [hasz]; decide), hM7, (HP6.out.below' hb5).other hg7 fun r hr => (HMS6.out.below' hb5).out.block r hr⟩
                  · intro h; simp [n10] at h
                · obtain rfl := Option.some.inj ho
                  have h9 := (hpre ⟨9, .data⟩ (by simp) rfl).1
                  have h8 : ls 8 = true := hcl 9 _ rfl h9 ⟨8, .data⟩ (by simp) rfl
                  have h7 : ls 7 = true := hcl 8 _ rfl h8 ⟨7, .data⟩ (by simp) rfl
                  refine wpOpIn_of rfl rfl (wpW_val (r_assign (.tmp 146) rfl rfl) ⟨_, rfl, ⟨?_, ?_, ?_, ?_, ?_, ?_, ?_⟩, trivial, (fun h => by simp at h), .inr (.inr (.inr (.inr (.inl rfl))))⟩)
                  · exact hS1
                  · intro _ h'; simp [h7] at h'
                  · intro h; simp [h7] at h
                  · intro _ h'; simp [h8] at h'
                  · intro _ h'; simp [h9] at h'
                  · intro _; obtain ⟨A', c', FM', e1, h1, h2⟩ := hS6 h9
                    exact ⟨A', c', FM', (slotv_put_ne (a := a) (s := 14) (t := 146) (by decide)).trans e1, h1, h2⟩
                  · intro _; exact (slotv_same (by rw [hasz]; decide)).trans (slotv_put_ne (a := a) (s := 14) (t := 146) (by decide)).symm
              · intro ls a W7 hall hS hP hsl
                obtain ⟨hS1, -, -, -, -, hS6, hS7⟩ := hS
                obtain ⟨A7, c7, FM7, e7, hm7, hp7⟩ := hS6 (hall 9 (by decide))
                have e14 := (hS7 (hall 10 (by decide))).trans e7
                have HM7 := Lib.hid hm7
                have HP7 := Lib.hid hp7
                obtain ⟨vs, hvs, hfr⟩ := hP.frame 275 rfl
                have f14 : vs 14 = .slice A7 (2 + k + 1) c7 := (hvs 14).trans e14
                clear hsl hP hall hvs hS1 hS6 hS7 hm7 hp7 e7 e14
                subst hfr
                simp only [List.range, List.range.loop, List.map_cons, List.map_nil, List.any_cons, List.any_nil, Nat.reduceAdd, Nat.reduceBEq, Nat.reduceLT, Option.some_beq_some, Bool.or_false, if_true, if_false, List.getD_cons_zero, List.getD_cons_succ, Bool.or_true, Bool.false_eq_true]
                rw [f14]
                clear f14
                go_wp2_with fail
                have HDS := Lib.hid (def_step HMP.out HML.out HU.out HU12.out HNB.out.1 HX1.out.1 HX1.out.2.1 HX1.out.2.2.1 HX1.out.2.2.2.1 HX1.out.2.2.2.2.1 HX1.out.2.2.2.2.2.1)
                have HNC : Hid (nb = ((2 + (k + 1) : Nat) : Int)) := Lib.hid (by have := HNB.out.1; omega)
                refine ⟨⟨k + 1, A7, c7, by go_num, by omega, by omega, rfl, Lib.hid ⟨F', FM7, Aq, cq, R ++ [u ++ [-nb]], Mk ++ [imgP M d u], HDS.out.1, HDS.out.2.1, HDS.out.2.2.1, HDS.out.2.2.2.1, HDS.out.2.2.2.2.1, HDS.out.2.2.2.2.2, ?_, HM7.out⟩⟩, by simp [intOf]; omega⟩
                rw [← HNC.out, List.length_append]
                exact HP7.out
          · have hdd : decide ((k : Int) < (WD.length : Int)) = false ∨ (decide ((k : Int) < (WD.length : Int)) = true ∧ decide ((k : Int) < 2) = false) := by
              simp only [decide_eq_true_eq, decide_eq_false_iff_not]
              omega
            rcases hdd with e1 | ⟨e1, e2⟩
            · go_wp2_with fail
              all_goals
                go_meet
                exact ⟨k, Am, cm, hk2, rfl, HX⟩
            · go_wp2_with fail
              all_goals
                go_meet
                exact ⟨k, Am, cm, hk2, rfl, HX⟩
      case rest =>
        obtain ⟨k, Am, cm, hk2, rfl, HX⟩ := hcut
        obtain ⟨F, FM, A, c, R, Mk, hx⟩ := HX.out
        have HPE : Hid (presE ((2 + k : Nat) : Int) R = 0) := Lib.hid (pres_def hk2 hx.2.2.2.1 hx.2.2.2.2.1)
        obtain ⟨hx1, hx2, -, -, hx5, hx6, hx7, hx8⟩ := hx
        have HBW : Hid (Below w.heap.size w wc) := Lib.hid ((HBM.out.trans (HBA2.out.mono HBM.out.size)).trans (hx7.below.mono HW5.out))
        have HMT : Hid (Tab wc (.slice Am (2 + k) cm) (Mk.map nz)) := Lib.hid hx8.tab
        have HRT : Hid (Tab wc (.slice A R.length c) R) := Lib.hid (OwnT.tab hx7.out)
        have HBX := Lib.hid hx7.box
        have HMP2 : Hid (∀ a ∈ Mk, Prm d a) := Lib.hid hx2
        have HML2 : Hid (Mk.length = 2 + k) := Lib.hid hx1
        have HRO : Hid (∀ j, j < R.length → LOk (2 + k) (R.getD j [])) := Lib.hid fun j hj => (hx5 _ (by rw [List.getD_eq_getElem?_getD, List.getElem?_eq_getElem hj]; exact List.getElem_mem hj)).1
        have HS6 : Hid (satB Mk d R = true) := Lib.hid hx6
        have HSI : Hid (Calls Try.prog 10 #[.agg #[.int .i64 ((2 + k : Nat) : Int), .slice A R.length c], .int .i64 (st : Int)] wc (SimpPost (2 + k) R st wc)) := Lib.hid (simplify10_ok wc _ (2 + k) R st HRT.out HPE.out HST.out)
        unfold SimpPost at HSI
        have HNB : Hid (2 ≤ 2 + k ∧ 2 + k ≤ 4) := Lib.hid (by omega)
        clear hx1 hx2 hx5 hx6 hx7 hx8 HX hk2
        generalize 2 + k = n at *
        cases hE : simpE n R st with
        | inr x =>
          rw [hE] at HSI
          go_wp2_with ((with_reducible refine wpList_sel 148 ?_); refine wpList_val rfl (r_loadAt 27 (.tmp 15) _ _ rfl rfl (load40 HBX.out)) ?_)
          refine HSI.out.mono ?_
          rintro e w9 ⟨rfl, hb⟩
          have HB9 := Lib.hid (HBW.out.trans (hb.mono HBW.out.size))
          clear hb
          go_wp2_with fail
          go_ret
          exact ⟨rfl, HB9.out.alloc HB9.out.size _⟩
        | inl s =>
          have hSL := same_law HMP2.out HML2.out HPE.out HS6.out hE
          rw [hE] at HSI
          obtain ⟨sn, sr, si, sb⟩ := s
          obtain ⟨h1, h16, hil, hbl, hbb, hprm, hio, hro, hpr, hsat, himg⟩ := hSL
          simp only at h1 h16 hil hbl hbb hprm hio hro hpr hsat himg HSI
          rw [hil, hbl] at HSI
          have HIO : Hid (∀ i, i < n → LOk sn (si.getD i [])) := Lib.hid hio
          have HRO2 : Hid (∀ j, j < sr.length → LOk sn (sr.getD j [])) := Lib.hid fun j hj => hro _ (by rw [List.getD_eq_getElem?_getD, List.getElem?_eq_getElem hj]; exact List.getElem_mem hj)
          have HPR2 : Hid (presE (sn : Int) sr = 0) := Lib.hid hpr
          have HSAT2 : Hid (satB (leftM Mk sb) d sr = true) := Lib.hid hsat
          have HIMG : Hid (∀ i, i < n → imgP (leftM Mk sb) d (si.getD i []) = Mk.getD i []) := Lib.hid himg
          have HPRM : Hid (∀ a ∈ leftM Mk sb, Prm d a) := Lib.hid hprm
          have HBB2 : Hid (∀ j, j < sn → 1 ≤ sb.getD j 0 ∧ sb.getD j 0 ≤ n) := Lib.hid hbb
          have HIL : Hid (si.length = n) := Lib.hid hil
          have HBL : Hid (sb.length = sn) := Lib.hid hbl
          have HSN : Hid (1 ≤ sn ∧ sn ≤ 16) := Lib.hid ⟨h1, h16⟩
          have hsn1 : (1 : Int) ≤ (sn : Int) := by omega
          have hsn2 : (sn : Int) ≤ 16 := by omega
          have hn1 : (2 : Int) ≤ (n : Int) := by have := HNB.out; omega
          have hn2 : (n : Int) ≤ 4 := by have := HNB.out; omega
          clear h1 h16 hil hbl hbb hprm hio hro hpr hsat himg hE
          go_wp2_with ((with_reducible refine wpList_sel 148 ?_); refine wpList_val rfl (r_loadAt 27 (.tmp 15) _ _ rfl rfl (load40 HBX.out)) ?_)
          refine HSI.out.mono ?_
          rintro e w9 ⟨⟨A1, a1, B1, b1, C1, c1, rfl, t1, t2, t3⟩, hb⟩
          obtain ⟨w10, hw10⟩ : ∃ w10, w10 = w9.alloc (.cells #[.int .i64 (sn : Int), .slice A1 sr.length a1] 27) := ⟨_, rfl⟩
          have hb10 : Below w9.heap.size w9 w10 := by rw [hw10]; exact (Below.refl _ _).alloc (Nat.le_refl _) _
          have hbx : Below wc.heap.size wc w10 := hb.trans (hb10.mono hb.size)
          have HB10 := Lib.hid (HBW.out.trans (hbx.mono HBW.out.size))
          have HMT2 := Lib.hid (kept_tab.below HMT.out hbx)
          have HRT2 := Lib.hid (kept_tab.below HRT.out hbx)
          have HBX2 := Lib.hid ((hbx.block _ (Array.getElem?_eq_some_iff.1 HBX.out).1).trans HBX.out)
          have HQT := Lib.hid (kept_tab.below t1 hb10)
          have HIT := Lib.hid (kept_tab.below t2 hb10)
          have HBT := Lib.hid (t3.below hb10)
          have HQX : Hid (w10.heap[w9.heap.size]? = some (.cells #[.int .i64 (sn : Int), .slice A1 sr.length a1] 27 (0, 0))) := Lib.hid (by rw [hw10]; exact heap_alloc_new w9 _)
          have x1 := (cell_of2 HBX2.out).1
          rw [hw10] at x1
          clear hb10 hbx t1 t2 t3 hb HBW HMT HRT HBX HSI
          go_wp2_with fail
          rw [← hw10]
          clear x1 hw10
          obtain ⟨bb, ob, rfl, -, hbc⟩ := ints_f HBT.out (j := 0) (by rw [HBL.out]; have := HSN.out; omega)
          have HBC : Hid (∀ W, Below w10.heap.size w10 W → ∀ j, j < sn → W.cell? ⟨bb, ob + j, none⟩ = some (.int .i64 (sb.getD j 0))) := Lib.hid fun W h j hj => hbc W h j (by rw [HBL.out]; exact hj)
          obtain ⟨bm, om, cm', em, hmr⟩ := rows_f HMT2.out HMP2.out HD5.out.1 (by rw [HML2.out]; have := HNB.out; omega)
          rw [HML2.out] at em hmr
          obtain ⟨rfl, -, rfl⟩ := Value.slice.inj em
          have HMR := Lib.hid hmr
          obtain ⟨bi, oi, rfl, -, hir⟩ := words_f HIT.out (i := 0) (by rw [HIL.out]; have := HNB.out; omega)
          rw [HIL.out] at hir
          have HIR := Lib.hid hir
          clear hbc hmr hir em
          go_loopw [28, 29] (fun vl i wr => ∃ (j : Nat) (Al : Option Addr) (cl : Nat), i = .int .i64 (j : Int) ∧ j ≤ sn ∧ vl = .slice Al j cl ∧ Hid (Below w10.heap.size w10 wr ∧ MS w10.heap.size (fun k => k < w10.heap.size) (.slice Al j cl) (leftM Mk (sb.take j)) wr)) (fun _ i _ => sn - (intOf i).toNat)
          case atStart => exact ⟨0, none, 0, rfl, Nat.zero_le _, rfl, Lib.hid ⟨Below.refl _ _, MS.nil' _ _ (Nat.le_refl _)⟩⟩
          case round =>
            obtain ⟨j, Al, cl, rfl, hj, rfl, HL⟩ := hrel
            have hj0 : (0 : Int) ≤ (j : Int) := Int.natCast_nonneg _
            by_cases hjs : j < sn
            · have hjs' : (j : Int) < (sn : Int) := by omega
              have x1 := HBC.out wr HL.out.1 j hjs
              have hz := HBB2.out j hjs
              obtain ⟨q, hq⟩ : ∃ q : Nat, sb.getD j 0 = (q : Int) + 1 := ⟨(sb.getD j 0 - 1).toNat, by omega⟩
              have HLE : Hid (leftM Mk (sb.take (j + 1)) = leftM Mk (sb.take j) ++ [Mk.getD q []]) := Lib.hid (by rw [leftM_take (by rw [HBL.out]; exact hjs), hq, show ((q : Int) + 1 - 1).toNat = q by omega])
              have HLL : Hid ((leftM Mk (sb.take j)).length = j) := Lib.hid (leftM_take_len (by rw [HBL.out]; exact hj))
              rw [hq] at x1 hz
              have hq0 : (0 : Int) ≤ (q : Int) := Int.natCast_nonneg _
              have hq1 : (q : Int) < (n : Int) := by omega
              have x2 := (cell_of2 ((HL.out.1.block _ (Array.getElem?_eq_some_iff.1 HBX2.out).1).trans HBX2.out)).1
              have e1 : decide ((q : Int) + 1 < 1) = false := decide_eq_false (by omega)
              have e2 : decide ((n : Int) < (q : Int) + 1) = false := decide_eq_false (by omega)
              have HQ := Lib.hid hq
              clear hz hq
              go_wp2_with fail
              go_quiet (fail)
              obtain ⟨wq, hwq⟩ : ∃ wq, wq = wr.drewN nq := ⟨_, rfl⟩
              rw [← hwq]
              have hbq : Below wr.heap.size wr wq := by rw [hwq]; exact below_drewN (Below.refl _ _) nq
              have HLQ : Hid (Below w10.heap.size w10 wq ∧ MS w10.heap.size (fun k => k < w10.heap.size) (.slice Al j cl) (leftM Mk (sb.take j)) wq) := Lib.hid ⟨HL.out.1.trans (hbq.mono HL.out.1.size), HL.out.2.below' hbq⟩
              clear hbq hwq x1 x2 HL
              have x1 := HBC.out wq HLQ.out.1 j hjs
              rw [HQ.out] at x1
              obtain ⟨Am2, cm2, x3, hfm⟩ := HMR.out wq HLQ.out.1 q (by omega)
              obtain ⟨A9, c9, W9, hr9, hm9, hb9⟩ := HLQ.out.2.share hfm (by rw [HLL.out]; have := HSN.out; omega) HLQ.out.1.size
              rw [HLL.out] at hr9 hm9
              rw [← HLE.out] at hm9
              have HR9 := Lib.hid hr9
              have HM9 : Hid (Below w10.heap.size w10 W9 ∧ MS w10.heap.size (fun k => k < w10.heap.size) (.slice A9 (j + 1) c9) (leftM Mk (sb.take (j + 1))) W9) := Lib.hid ⟨HLQ.out.1.trans hb9, hm9⟩
              clear hr9 hm9 hb9 hfm HLQ
              go_wp2_with ((with_reducible refine wpList_sel 209 ?_); refine wpList_val rfl (r_app (.tmp 199) (.tmp 208) 42 rfl rfl rfl HR9.out) ?_)
              go_roundw
              case rel => exact ⟨j + 1, A9, c9, by go_num, by omega, rfl, HM9⟩
              case measure => simp [intOf]; omega
            · obtain rfl : j = sn := by omega
              have HB11 := Lib.hid HL.out.1
              have HLT : Hid (Tab wr (.slice Al j cl) ((leftM Mk sb).map nz)) := Lib.hid (by have := HL.out.2.tab; rwa [List.take_of_length_le (by rw [HBL.out]; exact Nat.le_refl _)] at this)
              have HLN : Hid ((leftM Mk sb).length = j) := Lib.hid (by rw [leftM, List.length_map, HBL.out])
              clear HL HBB2 HBC
              generalize leftM Mk sb = L at *
              obtain ⟨w11, hw11⟩ : ∃ w11, w11 = wr := ⟨_, rfl⟩
              rw [← hw11] at HB11 HLT ⊢
              clear hw11
              have H18 : Hid (∀ W va vb (p : List Nat), Tab W va [nz p] → Tab W vb [nz p] → Calls Try.prog 18 #[va, vb] W fun e w' => e = .returned (.bool true) ∧ ∃ q, w' = W.drewN q) := Lib.hid fun W va vb p h1 h2 => by have := same18_any W va vb _ _ h1 h2; rwa [decide_eq_true rfl] at this
              go_wp2_with fail
              go_loopw [30, 31] (fun va i wr => ∃ (i' : Nat) (Aa : Option Addr) (ca : Nat), i = .int .i64 (i' : Int) ∧ i' ≤ n ∧ va = .slice Aa i' ca ∧ Hid (Below w11.heap.size w11 wr ∧ ∃ FM, MS w11.heap.size FM (.slice Aa i' ca) (Mk.take i') wr)) (fun _ i _ => n - (intOf i).toNat)
              case atStart => exact ⟨0, none, 0, rfl, Nat.zero_le _, rfl, Lib.hid ⟨Below.refl _ _, _, MS.nil _ _⟩⟩
              case round =>
                obtain ⟨i, Aa, ca, rfl, hi, rfl, HL⟩ := hrel
                have hi0 : (0 : Int) ≤ (i : Int) := Int.natCast_nonneg _
                have HBR := Lib.hid (HB11.out.trans (HL.out.1.mono HB11.out.size))
                by_cases hin : i < n
                · have hin' : (i : Int) < (n : Int) := by omega
                  obtain ⟨Au, cu, x1, hiu⟩ := HIR.out wr HBR.out i hin
                  have HIC : Hid (Calls Try.prog 17 #[.slice Al j cl, .slice Au (si.getD i []).length cu] wr fun e w' => (∃ A c, e = .returned (.slice A d c) ∧ IntsAt w' (.slice A d c) (nz (Mk.getD i [])) ∧ OwnI wr.heap.size w' (.slice A d c) (nz (Mk.getD i []))) ∧ Below wr.heap.size wr w') := Lib.hid (by
                    have := image17_any wr _ _ L d (si.getD i []) ⟨HD5.out.1, by have := HD5.out.2; omega⟩ HPRM.out (by rw [HLN.out]; exact HSN.out) (kept_tab.below HLT.out HL.out.1) hiu (by rw [HLN.out]; exact HIO.out i hin)
                    rwa [HIMG.out i hin] at this)
                  have HTK : Hid (Mk.take (i + 1) = Mk.take i ++ [Mk.getD i []]) := Lib.hid (by rw [List.take_add_one, List.getD_eq_getElem?_getD, List.getElem?_eq_getElem (by rw [HML2.out]; exact hin)]; rfl)
                  have HFP : Hid (Fits (nz (Mk.getD i []))) := Lib.hid (fits_nz fun x hx => by have := (row_prm HMP2.out (show i < Mk.length by rw [HML2.out]; exact hin)).lt x hx; have := HD5.out.2; omega)
                  generalize hsi : (si.getD i []).length = lu at *
                  clear hsi hiu
                  go_wp2_with fail
                  refine HIC.out.mono ?_
                  rintro e W1 ⟨⟨Ai, ci, rfl, hint, hown⟩, hb⟩
                  have hba : Below W1.heap.size W1 (W1.alloc (.cells #[.slice Ai d ci] 23)) := (Below.refl _ _).alloc (Nat.le_refl _) _
                  have hb2 : Below wr.heap.size wr (W1.alloc (.cells #[.slice Ai d ci] 23)) := hb.trans (hba.mono hb.size)
                  obtain ⟨Aq, cq, x2, hfq⟩ := HMR.out _ (HBR.out.trans (hb2.mono HBR.out.size)) i hin
                  obtain ⟨W3, hW3⟩ : ∃ W3, W3 = (W1.alloc (.cells #[.slice Ai d ci] 23)).alloc (.cells #[.slice Aq d cq] 23) := ⟨_, rfl⟩
                  have hb3 : Below W1.heap.size W1 W3 := by rw [hW3]; exact hba.alloc hba.size _
                  have t1 : Tab W3 (.slice (some ⟨W1.heap.size, 0, none⟩) 1 1) [nz (Mk.getD i [])] := by rw [hW3]; exact kept_tab.below (row_tab 23 hint) ((Below.refl _ _).alloc (Nat.le_refl _) _)
                  have t2 : Tab W3 (.slice (some ⟨W1.heap.size + 1, 0, none⟩) 1 1) [nz (Mk.getD i [])] := by
                    have := row_tab 23 hfq.at_
                    rw [World.size_alloc] at this
                    rw [hW3]
                    exact this
                  have H8 : Hid (Calls Try.prog 18 #[.slice (some ⟨W1.heap.size, 0, none⟩) 1 1, .slice (some ⟨W1.heap.size + 1, 0, none⟩) 1 1] W3 fun e w' => e = .returned (.bool true) ∧ ∃ q, w' = W3.drewN q) := Lib.hid (H18.out W3 _ _ _ t1 t2)
                  have HBA3 := Lib.hid hb3
                  have HBW1 := Lib.hid hb
                  have HOW := Lib.hid hown
                  clear t1 t2 hfq hb2 hba hint hb3 hb hown x1
                  go_wp2_with fail
                  rw [← hW3]
                  refine H8.out.mono ?_
                  rintro e w' ⟨rfl, q, rfl⟩
                  have hb4 : Below W1.heap.size W1 (W3.drewN q) := below_drewN HBA3.out q
                  generalize W3.drewN q = W4 at *
                  have hb5 : Below wr.heap.size wr W4 := HBW1.out.trans (hb4.mono HBW1.out.size)
                  obtain ⟨FM, hms⟩ := HL.out.2
                  obtain ⟨A9, c9, W9, hr9, hm9, hg9⟩ := (hms.below' hb5).push (owns_below HOW.out hb4) HFP.out (by rw [List.length_take]; have := HNB.out; omega) (Nat.le_trans HL.out.1.size hb5.size)
                  rw [List.length_take, HML2.out, Nat.min_eq_left hi] at hr9 hm9
                  rw [← HTK.out] at hm9
                  have HR9 := Lib.hid hr9
                  have HM9 : Hid (Below w11.heap.size w11 W9 ∧ ∃ FM, MS w11.heap.size FM (.slice A9 (i + 1) c9) (Mk.take (i + 1)) W9) := Lib.hid ⟨(HL.out.1.trans (hb5.mono HL.out.1.size)).grown hg9 (Nat.le_trans HL.out.1.size hb5.size) (fun r hr => (hms.out.block r hr).1), _, hm9⟩
                  clear hr9 hm9 hg9 hms hb4 hb5 x2 hW3 HL
                  go_wp2_with ((with_reducible refine wpList_sel 234 ?_); refine wpList_val rfl (r_app (.tmp 231) (.tmp 233) 42 rfl rfl rfl HR9.out) ?_)
                  go_roundw
                  case rel => exact ⟨i + 1, A9, c9, by go_num, by omega, rfl, HM9⟩
                  case measure => simp [intOf]; omega
                · obtain rfl : i = n := by omega
                  obtain ⟨FM, hms⟩ := HL.out.2
                  have HAT : Hid (Tab wr (.slice Aa i ca) (Mk.map nz)) := Lib.hid (by have := hms.tab; rwa [List.take_of_length_le (by rw [HML2.out]; exact Nat.le_refl _)] at this)
                  have HBF := Lib.hid (HB10.out.trans (HBR.out.mono HB10.out.size))
                  have hd6 : 1 ≤ d ∧ d ≤ 6 := ⟨HD5.out.1, by have := HD5.out.2; omega⟩
                  have hi16 : 1 ≤ i ∧ i ≤ 16 := by have := HNB.out; omega
                  have HS1 : Hid (∀ W, Below wr.heap.size wr W → Calls Try.prog 16 #[.agg #[.int .i64 (i : Int), .slice A R.length c], .slice (some ⟨bm, om, none⟩) i cm] W fun e w' => e = .returned (.tuple #[.bool true, .int .i64 0]) ∧ Below W.heap.size W w') := Lib.hid fun W h => by
                    have hb := HBR.out.trans (h.mono HBR.out.size)
                    have := sat16_any W _ _ Mk i d R hd6 HMP2.out HML2.out hi16 (kept_tab.below HMT2.out hb) (kept_tab.below HRT2.out hb) HPE.out HRO.out
                    rwa [HS6.out] at this
                  have HS2 : Hid (∀ W, Below wr.heap.size wr W → Calls Try.prog 16 #[.agg #[.int .i64 (j : Int), .slice A1 sr.length a1], .slice Al j cl] W fun e w' => e = .returned (.tuple #[.bool true, .int .i64 0]) ∧ Below W.heap.size W w') := Lib.hid fun W h => by
                    have hb := HBR.out.trans (h.mono HBR.out.size)
                    have := sat16_any W _ _ L j d sr hd6 HPRM.out HLN.out HSN.out (kept_tab.below HLT.out (HL.out.1.trans (h.mono HL.out.1.size))) (kept_tab.below HQT.out hb) HPR2.out HRO2.out
                    rwa [HSAT2.out] at this
                  have HS3 : Hid (∀ W, Below wr.heap.size wr W → Calls Try.prog 16 #[.agg #[.int .i64 (i : Int), .slice A R.length c], .slice Aa i ca] W fun e w' => e = .returned (.tuple #[.bool true, .int .i64 0]) ∧ Below W.heap.size W w') := Lib.hid fun W h => by
                    have hb := HBR.out.trans (h.mono HBR.out.size)
                    have := sat16_any W _ _ Mk i d R hd6 HMP2.out HML2.out hi16 (kept_tab.below HAT.out h) (kept_tab.below HRT2.out hb) HPE.out HRO.out
                    rwa [HS6.out] at this
                  have HX1 : Hid (∀ W, Below wr.heap.size wr W → W.heap[wm.heap.size]? = some (.cells #[.int .i64 (i : Int), .slice A R.length c] 27 (0, 0))) := Lib.hid fun W h => by
                    have hb := HBR.out.trans (h.mono HBR.out.size)
                    exact (hb.block _ (Array.getElem?_eq_some_iff.1 HBX2.out).1).trans HBX2.out
                  have HX2 : Hid (∀ W, Below wr.heap.size wr W → W.heap[w9.heap.size]? = some (.cells #[.int .i64 (j : Int), .slice A1 sr.length a1] 27 (0, 0))) := Lib.hid fun W h => by
                    have hb := HBR.out.trans (h.mono HBR.out.size)
                    exact (hb.block _ (Array.getElem?_eq_some_iff.1 HQX.out).1).trans HQX.out
                  have HY1 := Lib.hid (HX1.out wr (Below.refl _ _))
                  clear hms HL hd6 hi16 hi hin
                  go_wp2_with ((with_reducible refine wpList_sel 236 ?_); refine wpList_val rfl (r_loadAt 27 (.tmp 15) _ _ rfl rfl (load40 HY1.out)) ?_)
                  refine (HS1.out wr (Below.refl _ _)).mono ?_
                  rintro e v1 ⟨rfl, hb⟩
                  have HB1 := Lib.hid hb
                  have HY2 := Lib.hid (HX2.out v1 hb)
                  clear hb HY1
                  go_wp2_with ((with_reducible refine wpList_sel 242 ?_); refine wpList_val rfl (r_loadAt 27 (.tmp 24) _ _ rfl rfl (load40 HY2.out)) ?_)
                  refine (HS2.out v1 HB1.out).mono ?_
                  rintro e v2 ⟨rfl, hb⟩
                  have HB2 := Lib.hid (HB1.out.trans (hb.mono HB1.out.size))
                  have HY3 := Lib.hid (HX1.out v2 HB2.out)
                  clear hb HY2 HB1
                  go_wp2_with ((with_reducible refine wpList_sel 248 ?_); refine wpList_val rfl (r_loadAt 27 (.tmp 15) _ _ rfl rfl (load40 HY3.out)) ?_)
                  refine (HS3.out v2 HB2.out).mono ?_
                  rintro e v3 ⟨rfl, hb⟩
                  have HB3 := Lib.hid (HBF.out.trans ((HB2.out.trans (hb.mono HB2.out.size)).mono HBF.out.size))
                  clear hb HY3 HB2
                  go_wp2_with fail
                  go_ret
                  exact ⟨rfl, HB3.out⟩
end Go.Proofs
