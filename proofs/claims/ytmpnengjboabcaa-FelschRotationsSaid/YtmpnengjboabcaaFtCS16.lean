/- felsch.words; felsch.Words and the reference's; The cosets of Felsch's strategy: scans; (*felsch.deducer).fill; The pairs and the words of a run of Felsch's strategy, in memory. -/
import Derived.Test.YtmpnengjboabcaaFtCS15
import Derived.Test.YtmpnengjboabcaaFtCS7
import Derived.Test.YtmpnengjboabcaaFtCS6
import Derived.Test.YtmpnengjboabcaaFtCS4
namespace Go.Proofs
open Go.RowKit Go.Shelf Go.Proofs.Ct Go.Maps
theorem midTo_len (L : List W) (ws : W) (x : Int) (h : ws.length ≤ 100) : ∀ j, (midTo L ws x j).length ≤ L.length + j * 100
  | 0 => Nat.le_refl _
  | j + 1 => by
    have ih := midTo_len L ws x h j
    have h1 := rotTo_len (midTo L ws x j) ([ws, Ct.inv ws].getD j []) x ([ws, Ct.inv ws].getD j []).length
    have h2 : ([ws, Ct.inv ws].getD j []).length ≤ 100 := by
      match j with
      | 0 => exact h
      | 1 => show (Ct.inv ws).length ≤ 100; rw [length_inv]; exact h
      | j + 2 => exact Nat.zero_le _
    show (rotL (midTo L ws x j) ([ws, Ct.inv ws].getD j []) x).length ≤ _
    unfold rotL
    omega
set_option maxRecDepth 100000 in
set_option maxHeartbeats 4000000 in
theorem words139_any (w : World) (vr : Value) (rels : List W) (g x : Int) (hR : Tab w vr rels) (_hx1 : -9223372036854775808 ≤ x) (_hx2 : x ≤ 9223372036854775807) (hm : ∀ j, ∀ z ∈ rels.getD j [], Mild z) (hlen : ∀ j, (rels.getD j []).length ≤ 100) (hn : rels.length ≤ 200) :
    Calls Try.prog 139 #[.agg #[.int .i64 g, vr], .int .i64 x] w fun e w' => (∃ A c, e = .returned (.slice A (wordsX rels x).length c) ∧ TabB w.heap.size w' (.slice A (wordsX rels x).length c) (wordsX rels x)) ∧ Below w.heap.size w w' := by
  obtain ⟨Ar, cr, rfl⟩ := Tab.form hR
  have HP : Hid (∀ W, W = w.alloc (.cells #[.int .i64 g, .slice Ar rels.length cr] 40) → Below w.heap.size w W ∧ W.heap[w.heap.size]? = some (.cells #[.int .i64 g, .slice Ar rels.length cr] 40 (0, 0)) ∧ W.heap.size = w.heap.size + 1) := Lib.hid fun W h => by
    subst h
    exact ⟨(Below.refl _ _).alloc (Nat.le_refl _) _, heap_alloc_new w _, by simp⟩
  have HRR := Lib.hid hR
  have HM := Lib.hid hm
  have HLEN := Lib.hid hlen
  have hrn0 : (0 : Int) ≤ (rels.length : Int) := Int.natCast_nonneg _
  have hrn1 : (rels.length : Int) ≤ 200 := by omega
  have HW2 : Hid (∀ k, (wordsTo2 rels x k).length ≤ k * 200) := Lib.hid fun k => wordsTo2_len hlen x k
  unfold wordsX
  clear hR hm hlen
  go_enter Try.func139, Try.ntmps139
  go_wp2_with fail
  generalize hw0 : w.alloc (.cells #[.int .i64 g, .slice Ar rels.length cr] 40) = w0 at *
  obtain ⟨hb0, hbx, hsz⟩ := HP.out w0 rfl
  have HB0 := Lib.hid hb0
  have hcr : w0.cell? ⟨w.heap.size, 1, none⟩ = some (.slice Ar rels.length cr) := (cell_of2 hbx).2
  have HT : Hid (Tab w0 (.slice Ar rels.length cr) rels) := Lib.hid (kept_tab.below HRR.out hb0)
  have HSZ := Lib.hid hsz
  clear hw0 hb0 hbx HP hsz
  go_wp2_with fail
  go_loopw [5, 16] (fun vo i wr => ∃ (k : Nat) (A : Option Addr) (c : Nat), i = .int .i64 (k : Int) ∧ k ≤ rels.length ∧ vo = .slice A (wordsTo2 rels x k).length c ∧ Hid (∃ F1, OutSt 25 F1 w0 wr vo (wordsTo2 rels x k))) (fun _ i _ => rels.length - (intOf i).toNat)
  case atStart => exact ⟨0, none, 0, rfl, Nat.zero_le _, rfl, Lib.hid ⟨_, OutSt.nil 25 (Below.refl _ _)⟩⟩
  case round =>
    clear hcr
    obtain ⟨i, A, c, rfl, hi, rfl, HO⟩ := hrel
    have hi0 : (0 : Int) ≤ (i : Int) := Int.natCast_nonneg _
    have hbl : Below w0.heap.size w0 wr := by obtain ⟨F1, h⟩ := HO.out; exact h.below
    by_cases hlt : i < rels.length
    · have hiI : (i : Int) < (rels.length : Int) := by omega
      obtain ⟨bs, os, rfl, hcell0⟩ := HT.out.cells (by omega)
      obtain ⟨u, hu0, hI0⟩ := hcell0 i hlt
      have hu := (hbl.cell (p := ⟨bs, os + i, none⟩) (World.block_lt_of_cell? w0 _ hu0)).trans hu0
      have hIF := IntsF.of_at hI0
      have HWS : Hid (wordsTo2 rels x (i + 1) = midTo (wordsTo2 rels x i) (rels.getD i []) x 2) := Lib.hid rfl
      have HUW : Hid (∀ W, Below w0.heap.size w0 W → IntsAt W u (rels.getD i [])) := Lib.hid fun W h => (hIF.keep (fun q hq => h.block q hq)).at_
      obtain ⟨Au, cu, rfl, -, -, -⟩ := hI0.open_
      have hmk := HM.out i
      have HMK := Lib.hid hmk
      have hlk := HLEN.out i
      have hll := HW2.out i
      have HLL0 : Hid ((wordsTo2 rels x i).length ≤ 40000) := Lib.hid (by omega)
      generalize rels.getD i [] = rel at *
      have HLK := Lib.hid hlk
      have HLI := Lib.hid (length_inv rel)
      have HFI : Hid (Fits rel ∧ Fits (Ct.inv rel)) := Lib.hid ⟨hI0.2, Mild.fits (mild_inv hmk)⟩
      have HIV := Lib.hid (inverse189_any wr _ rel (HUW.out _ hbl) (by omega) hmk)
      have HIF := Lib.hid hIF
      have HBL := Lib.hid hbl
      unfold InvPost at HIV
      clear hcell0 hu0 hI0 hIF hmk hlk hll hbl
      generalize hL : wordsTo2 rels x i = L0 at *
      clear hL
      go_wp2_with (go_at_call 189; (with_reducible refine HIV.out.mono ?_); rintro E w1 ⟨A1, c1, rfl, ho1, hb1⟩; have HO1 := Lib.hid ho1; have HB1 := Lib.hid hb1; clear ho1 hb1)
      obtain ⟨qp, hqp⟩ : ∃ q, q = w1.heap.size := ⟨_, rfl⟩
      have hal := heap_alloc_new w1 (.cells #[.slice Au rel.length cu, .slice A1 rel.length c1] 25)
      have hwb : Below w1.heap.size w1 (w1.alloc (.cells #[.slice Au rel.length cu, .slice A1 rel.length c1] 25)) := (Below.refl _ _).alloc (Nat.le_refl _) _
      have hsz1 : (w1.alloc (.cells #[.slice Au rel.length cu, .slice A1 rel.length c1] 25)).heap.size = w1.heap.size + 1 := by simp
      generalize hwm : w1.alloc (.cells #[.slice Au rel.length cu, .slice A1 rel.length c1] 25) = wm at *
      rw [← hqp] at hal hsz1 ⊢
      have hOM : ∃ F1, OutSt 25 F1 w0 wm (.slice A L0.length c) L0 := by
        obtain ⟨F1, h⟩ := HO.out
        exact ⟨F1, (h.below' HB1.out).below' hwb⟩
      have hvm : ∀ r, (Value.slice A L0.length c).ownBlock = some r → w0.heap.size ≤ r ∧ r < wr.heap.size := fun r hr => by
        obtain ⟨F1, h⟩ := HO.out
        obtain ⟨h1, C, hC⟩ := h.out.block r hr
        exact ⟨h1, (Array.getElem?_eq_some_iff.1 hC).1⟩
      have hPR : ∀ j, j < 2 → ∃ A' c', ∀ W vo, Grw wm W (.slice A L0.length c) vo → W.cell? ⟨qp, j, none⟩ = some (.slice A' rel.length c') ∧ IntsAt W (.slice A' rel.length c') ([rel, Ct.inv rel].getD j []) := by
        intro j hj
        have hs1 := HB1.out.size
        have hqw : ∀ W vo, Grw wm W (.slice A L0.length c) vo → W.heap[qp]? = some (.cells #[.slice Au rel.length cu, .slice A1 rel.length c1] 25 (0, 0)) := fun W vo hW => (hW.2.1 qp (by omega) (fun e => by have := (hvm qp e).2; omega)).trans hal
        match j, hj with
        | 0, _ =>
          refine ⟨Au, cu, fun W vo hW => ⟨by rw [cell_of_row _ _ _ _ _ _ (hqw W vo hW)]; rfl, ?_⟩⟩
          refine (HIF.out.keep (fun q hq => ?_)).at_
          have hq2 := Nat.lt_of_lt_of_le hq HBL.out.size
          exact (hW.2.1 q (by omega) (fun e => by have := (hvm q e).1; omega)).trans ((hwb.block q (by omega)).trans ((HB1.out.block q hq2).trans (HBL.out.block q hq)))
        | 1, _ =>
          refine ⟨A1, c1, fun W vo hW => ⟨by rw [cell_of_row _ _ _ _ _ _ (hqw W vo hW)]; rfl, ?_⟩⟩
          have h1 : OwnI wr.heap.size W (.slice A1 rel.length c1) (Ct.inv rel) := owns_keep HO1.out fun r hr => by
            have hr1 := (owns_block HO1.out r hr).1
            have hr2 := owns_lt HO1.out hr
            exact (hW.2.1 r (by omega) (fun e => by have := (hvm r e).2; omega)).trans (hwb.block r hr2)
          have h2 := OwnI.ints (by rw [← HLI.out] at h1; exact h1) HFI.out.2
          rw [HLI.out] at h2
          exact h2
      have HPR := Lib.hid hPR
      have HOM := Lib.hid hOM
      have HGM : Hid (Grw wm wm (.slice A L0.length c) (.slice A L0.length c)) := Lib.hid (Grw.of_below (Below.refl _ _) _)
      have HLM : Hid (∀ j, j ≤ 2 → (midTo L0 rel x j).length ≤ 50000) := Lib.hid fun j hj => by
        have := midTo_len L0 rel x HLK.out j
        have := HLL0.out
        omega
      clear hal hwb hwm hsz1 hOM hvm hPR hu hqp
      generalize hvm : Value.slice A L0.length c = vm at *
      have HVM := Lib.hid hvm
      clear hvm
      go_wp2_with fail
      go_loopw [5, 25] (fun vo i wr => ∃ (j : Nat) (A : Option Addr) (c : Nat), i = .int .i64 (j : Int) ∧ j ≤ 2 ∧ vo = .slice A (midTo L0 rel x j).length c ∧ Hid (∃ F1, OutSt 25 F1 w0 wr vo (midTo L0 rel x j)) ∧ Hid (Grw wm wr vm vo)) (fun _ i _ => 2 - (intOf i).toNat)
      case atStart => exact ⟨0, A, c, rfl, Nat.zero_le _, HVM.out.symm, HOM, HGM⟩
      case round =>
        clear HOM HGM HIV HO HB1 HO1 HIF HBL
        obtain ⟨j, AM, cM, rfl, hj, rfl, HOM, HGM⟩ := hrel
        have hj0 : (0 : Int) ≤ (j : Int) := Int.natCast_nonneg _
        by_cases hlt2 : j < 2
        · have hjI : (j : Int) < 2 := by omega
          obtain ⟨A', c', hPj⟩ := HPR.out j hlt2
          have hcp := (hPj _ _ HGM.out).1
          have HNM : Hid (midTo L0 rel x (j + 1) = rotL (midTo L0 rel x j) ([rel, Ct.inv rel].getD j []) x) := Lib.hid rfl
          have hwl : ([rel, Ct.inv rel].getD j []).length = rel.length := by
            match j, hlt2 with
            | 0, _ => rfl
            | 1, _ => exact length_inv rel
          have hfw : Fits ([rel, Ct.inv rel].getD j []) := by
            match j, hlt2 with
            | 0, _ => exact HFI.out.1
            | 1, _ => exact HFI.out.2
          have HFW := Lib.hid hfw
          have hLm := HLM.out j hj
          rw [← hwl] at hcp
          have hPj2 : ∀ W vo, Grw wm W vm vo → IntsAt W (.slice A' ([rel, Ct.inv rel].getD j []).length c') ([rel, Ct.inv rel].getD j []) := fun W vo hW => by rw [hwl]; exact (hPj W vo hW).2
          have hwlk : ([rel, Ct.inv rel].getD j []).length ≤ 100 := by rw [hwl]; exact HLK.out
          generalize [rel, Ct.inv rel].getD j [] = ws at *
          generalize hLmm : midTo L0 rel x j = Lm at *
          have HPJ := Lib.hid hPj2
          have HLMM := Lib.hid hLm
          obtain ⟨A99, cwn, e9, hcu, hcm, -⟩ := (hPj2 _ _ HGM.out).open_
          obtain ⟨rfl, -, rfl⟩ := Value.slice.inj e9
          clear hPj hPj2 hwl hfw hLm hLmm e9
          have hws0 : (0 : Int) ≤ (ws.length : Int) := Int.natCast_nonneg _
          have hws1 : (ws.length : Int) ≤ 100 := by omega
          have hwc : (ws.length : Int) ≤ (c' : Int) := by omega
          go_wp2_with fail
          go_loopw [5, 31] (fun vo i wr => ∃ (k : Nat) (A : Option Addr) (c : Nat), i = .int .i64 (k : Int) ∧ k ≤ ws.length ∧ vo = .slice A (rotTo Lm ws x k).length c ∧ Hid (∃ F1, OutSt 25 F1 w0 wr vo (rotTo Lm ws x k)) ∧ Hid (Grw wm wr vm vo)) (fun _ i _ => ws.length - (intOf i).toNat)
          case atStart => exact ⟨0, AM, cM, rfl, Nat.zero_le _, rfl, HOM, HGM⟩
          case round =>
            clear HOM HGM hcp
            obtain ⟨k, AL, cL, rfl, hk, rfl, HOL, HGR⟩ := hrel
            have hk0 : (0 : Int) ≤ (k : Int) := Int.natCast_nonneg _
            by_cases hlt3 : k < ws.length
            · have hkI : (k : Int) < (ws.length : Int) := by omega
              have hLL := rotTo_len Lm ws x k
              have HLL : Hid ((rotTo Lm ws x k).length ≤ 200000) := Lib.hid (by have := HLMM.out; omega)
              have hiw := HPJ.out wr _ HGR.out
              have HSTEP : Hid ((ws.getD k 0 = x ∧ ws.drop k ++ ws.take k ∉ rotTo Lm ws x k → rotTo Lm ws x (k + 1) = rotTo Lm ws x k ++ [ws.drop k ++ ws.take k]) ∧ (¬ (ws.getD k 0 = x ∧ ws.drop k ++ ws.take k ∉ rotTo Lm ws x k) → rotTo Lm ws x (k + 1) = rotTo Lm ws x k)) := Lib.hid ⟨fun h => if_pos h, fun h => if_neg h⟩
              obtain ⟨A9, cu, e', -, -, hcl⟩ := hiw.open_
              obtain ⟨rfl, -, rfl⟩ := Value.slice.inj e'
              obtain ⟨bu, ou, rfl, hcc⟩ := hcl (by omega)
              have hck := hcc k hlt3
              obtain ⟨A1', hv1, hi1⟩ := ints_sliced (k := k) (h := ws.length) hiw (by omega) (Nat.le_refl _)
              obtain ⟨A2, hv2, hi2⟩ := ints_sliced (k := 0) (h := k) hiw (by omega) (by omega)
              rw [List.take_length] at hi1
              rw [List.drop_zero, Nat.sub_zero, Nat.sub_zero] at hi2
              rw [Nat.sub_zero, Nat.sub_zero] at hv2
              rw [show ws.length - k = (ws.drop k).length by rw [List.length_drop]] at hi1 hv1
              rw [show k = (ws.take k).length by rw [List.length_take]; omega] at hi2
              rw [show (ws.take (ws.take k).length) = ws.take k by rw [show (ws.take k).length = k by rw [List.length_take]; omega]] at hi2
              replace hv2 : sliced (some ⟨bu, ou, none⟩) 0 k c' 1 = .slice A2 (ws.take k).length c' := by rw [hv2, show (ws.take k).length = k by rw [List.length_take]; omega]
              have HSL : Hid (∀ W, Below wr.heap.size wr W → IntsAt W (.slice A1' (ws.drop k).length (c' - k)) (ws.drop k) ∧ IntsAt W (.slice A2 (ws.take k).length c') (ws.take k)) := Lib.hid fun W hW => ⟨hi1.below hW, hi2.below hW⟩
              generalize hL : rotTo Lm ws x k = L at *
              clear hL hLL hiw hcl hcc hi1 hi2 e'
              by_cases hkx : ws.getD k 0 = x
              · rw [hkx] at hck
                have HKX := Lib.hid hkx
                clear hkx
                go_wp2_with fail
                refine (wpIn_wide (n := 3)).1 ?_
                refine wpIn_region_tie (by kernel_rfl) 10 rfl (fun i => ([some 39, some 40, some 41, some 42, some 43, some 44, some 45, some 46, some 12, none] : List (Option Nat)).getD i none) (lex_of (by kernel_rfl)) wr.heap.size (fun i => ([8] : List Nat).contains i) (fun i j => (([[], [], [0, 1], [], [], [3, 4], [2, 5], [6], [], [8, 7]] : List (List Nat)).getD i []).contains j) (fun W => Below wr.heap.size wr W) (fun j v O W => if j = 9 then BoxS wr.heap.size (ws.drop k ++ ws.take k) v O W else (([.eq (.slice (some ⟨bu, ou, none⟩) ws.length c'), .eq (.int .i64 (k : Int)), .eq (.slice A1' (ws.drop k).length (c' - k)), .eq (.slice (some ⟨bu, ou, none⟩) ws.length c'), .eq (.int .i64 (k : Int)), .eq (.slice A2 (ws.take k).length c'), .tab [ws.drop k, ws.take k], .own (ws.drop k ++ ws.take k), .box 25 #[.slice none 0 0], .any] : List FP).getD j FP.any).holds wr.heap.size v O W) (fun j => if j = 9 then 8 else j) (by intro j hj; have hj2 : j < 10 := hj; by_cases e : j = 9; (subst e; exact .inr ⟨rfl, by decide, rfl⟩); (exact .inl (if_neg e))) (by kernel_rfl) (by kernel_rfl) (dm_inj (by kernel_rfl)) (fun j v O W W' _ _ h hs h1 h2 => keep_tie rfl h1 h2 hs h) (dm_lt (n := 59) (by kernel_rfl)) (Nat.le_refl _) (Below.refl _ _).drew ?_ ?_
                · intro O ls q o a w2 hq ho hS hbw hls hP hpre hdj
                  have hcases : q = 0 ∨ q = 1 ∨ q = 2 ∨ q = 3 ∨ q = 4 ∨ q = 5 ∨ q = 6 ∨ q = 7 ∨ q = 8 ∨ q = 9 := by
                    have : q < 10 := hq
                    omega
                  rcases hcases with rfl | rfl | rfl | rfl | rfl | rfl | rfl | rfl | rfl | rfl
                  · obtain rfl := Option.some.inj ho
                    exact wpOpIn_of rfl rfl (wpW_val (r_move (.tmp 9) rfl (hP.out 9 (dm_out (by kernel_rfl)))) ⟨_, _, rfl, hS, (fun h => by simp at h), Step.same, rfl⟩)
                  · obtain rfl := Option.some.inj ho
                    exact wpOpIn_of rfl rfl (wpW_val (r_move (.tmp 10) rfl (hP.out 10 (dm_out (by kernel_rfl)))) ⟨_, _, rfl, hS, (fun h => by simp at h), Step.same, rfl⟩)
                  · obtain rfl := Option.some.inj ho
                    exact wpOpIn_of rfl rfl (wpW_val (r_lo25 (.tmp 39) (.tmp 40) (some ⟨bu, ou, none⟩) ws.length c' k rfl (hpre 0 (by decide) rfl).1 (hpre 1 (by decide) rfl).1 (by omega) hv1) ⟨_, _, rfl, hS, (fun h => by simp at h), Step.same, rfl⟩)
                  · obtain rfl := Option.some.inj ho
                    exact wpOpIn_of rfl rfl (wpW_val (r_move (.tmp 9) rfl (hP.out 9 (dm_out (by kernel_rfl)))) ⟨_, _, rfl, hS, (fun h => by simp at h), Step.same, rfl⟩)
                  · obtain rfl := Option.some.inj ho
                    exact wpOpIn_of rfl rfl (wpW_val (r_move (.tmp 10) rfl (hP.out 10 (dm_out (by kernel_rfl)))) ⟨_, _, rfl, hS, (fun h => by simp at h), Step.same, rfl⟩)
                  · obtain rfl := Option.some.inj ho
                    exact wpOpIn_of rfl rfl (wpW_val (r_hi25 (.tmp 42) (.tmp 43) (some ⟨bu, ou, none⟩) ws.length c' k rfl (hpre 3 (by decide) rfl).1 (hpre 4 (by decide) rfl).1 (by omega) hv2) ⟨_, _, rfl, hS, (fun h => by simp at h), Step.same, rfl⟩)
                  · obtain rfl := Option.some.inj ho
                    have hal : Below w2.heap.size w2 (w2.alloc (.cells #[.slice A1' (ws.drop k).length (c' - k), .slice A2 (ws.take k).length c'] 25)) := (Below.refl _ _).alloc (Nat.le_refl _) _
                    have h1 := (IntsF.of_at (HSL.out _ (Below.refl _ _)).1).keep (w' := w2) (fun q hq => hS.block q hq)
                    have h2 := (IntsF.of_at (HSL.out _ (Below.refl _ _)).2).keep (w' := w2) (fun q hq => hS.block q hq)
                    exact wpOpIn_of rfl rfl (wpW_val (r_bs31_2 (.tmp 41) (.tmp 44) A1' A2 _ _ _ _ rfl (hpre 2 (by decide) rfl).1 (hpre 5 (by decide) rfl).1) ⟨_, _, rfl, hS.trans (hal.mono hS.size), (fun h => by simp at h), Step.below hal, ⟨_, _, rfl, (tab_two25 h1 h2 (fun q hq => Nat.lt_of_lt_of_le hq hbw)).mono fun q hq => hq.elim .inl fun e => .inr (Mx.fresh (Nat.le_of_eq e.symm) (by rw [e]; simp))⟩⟩)
                  · obtain rfl := Option.some.inj ho
                    obtain ⟨A6, c6, e6, k6⟩ := (hpre 6 (by decide) rfl).1
                    exact wpOpIn_of rfl rfl (wpW_call (R := fun v w' => (∃ A c, v = .slice A (ws.drop k ++ ws.take k).length c ∧ OwnI w2.heap.size w' (.slice A (ws.drop k ++ ws.take k).length c) (ws.drop k ++ ws.take k)) ∧ Below w2.heap.size w2 w') (r_call1 (.tmp 45) _ _ rfl e6 call124) ((concat100_any w2 _ [ws.drop k, ws.take k] k6.tab (by show sumTo [ws.drop k, ws.take k] 2 ≤ 1000000; rw [← flatTo_length, flat_two, List.length_append, List.length_drop, List.length_take]; omega)).mono fun e w' h => by
                      obtain ⟨A, c, he, ho, hb⟩ := h
                      rw [show [ws.drop k, ws.take k].length = 2 from rfl, flat_two] at he ho
                      exact ⟨_, he, ⟨A, c, rfl, ho⟩, hb⟩)
                      (fun v w'' ⟨⟨A, c, hv, ho⟩, hb⟩ => ⟨v, _, rfl, hS.trans (hb.mono hS.size), (fun h => by simp at h), Step.below hb, ⟨A, c, hv, owns_base ho hS.size, fun r hr => Mx.fresh (owns_block ho r hr).1 (owns_lt ho hr)⟩⟩))
                  · obtain rfl := Option.some.inj ho
                    have hal : Below w2.heap.size w2 (w2.alloc (.cells #[.slice none 0 0] 25)) := (Below.refl _ _).alloc (Nat.le_refl _) _
                    exact wpOpIn_of rfl rfl (wpW_val (r_alloc25 rfl) ⟨_, _, rfl, hS.trans (hal.mono hS.size), (fun h => by simp at h), Step.below hal, ⟨w2.heap.size, rfl, Mx.fresh (Nat.le_refl _) (by simp), heap_alloc_new w2 _⟩⟩)
                  · obtain rfl := Option.some.inj ho
                    obtain ⟨⟨q8, e8, o8, h8⟩, b8⟩ := hpre 8 (by decide) rfl
                    obtain ⟨⟨A7, c7, e7, h7, o7⟩, b7⟩ := hpre 7 (by decide) rfl
                    have hdis : ∀ r, (Value.slice A7 (ws.drop k ++ ws.take k).length c7).ownBlock = some r → r ≠ q8 := fun r hr e => hdj 8 7 q8 (by decide) (by decide) rfl rfl (by decide) rfl o8 (e ▸ o7 r hr)
                    have hgr := grown_setCell w2 q8 0 (.slice A7 (ws.drop k ++ ws.take k).length c7)
                    have hq8 := b8 q8 o8
                    exact wpOpIn_of rfl rfl (wpW_skip (r_store25 (.tmp 12) (.tmp 46) q8 _ _ _ _ rfl e8 e7 h8) ⟨undef, _, rfl, grown_below rfl hS hgr (fun r hr => Option.some.inj hr ▸ hq8.1), (fun _ => rfl), Step.grown hgr (fun r hr => ⟨8, by decide, rfl, rfl, Option.some.inj hr ▸ o8⟩), (show BoxS wr.heap.size (ws.drop k ++ ws.take k) (slotv a (some 12)) _ _ from ⟨q8, A7, c7, e8, by rw [World.setCell]; simp [Array.getElem?_modify, h8], Mx.of (j := 8) (by decide) rfl (by decide) o8 (Nat.lt_of_lt_of_le hq8.2 hgr.size), owns_keep h7 (fun r hr => hgr.block r (owns_lt h7 hr) (fun e => hdis r hr (Option.some.inj e.symm ▸ rfl))), fun r hr => Mx.of (j := 7) (by decide) rfl (by decide) (o7 r hr) (Nat.lt_of_lt_of_le (b7 r (o7 r hr)).2 hgr.size)⟩)⟩)
                · intro O ls a w2 hall hS hbw hP hsl
                  obtain ⟨vs, hvs, hfr⟩ := hP.frame 59 rfl
                  obtain ⟨qb, A8, c8, e8', hbx, -, o8, -⟩ : BoxS wr.heap.size (ws.drop k ++ ws.take k) (a.tmps.getD 12 undef) (O 9) w2 := (hsl 9 (by decide) (.inl rfl)).1
                  have e8 : a.tmps.getD 12 undef = .pointer (some ⟨qb, 0, none⟩) := e8'
                  rw [← hvs] at e8
                  have HS5 := Lib.hid hS
                  have HBX := Lib.hid hbx
                  clear hsl hP hall hS hvs hbw e8' HSL hv1 hv2 hbx
                  subst hfr
                  dsimp only
                  simp only [List.range, List.range.loop, List.map_cons, List.map_nil, List.any_cons, List.any_nil, Nat.reduceBEq, Option.some_beq_some, Option.none_beq_some, Bool.or_false, Bool.false_or, Bool.false_eq_true, if_true, if_false, List.getD_cons_zero, List.getD_cons_succ, e8]
                  have HO5 := Lib.hid o8
                  clear o8 e8
                  have hrl : (ws.drop k ++ ws.take k).length = ws.length := by rw [List.length_append, List.length_drop, List.length_take]; omega
                  have HFR : Hid (Fits (ws.drop k ++ ws.take k)) := Lib.hid fun z hz => HFW.out z (by
                    rcases List.mem_append.1 hz with h | h
                    · exact List.mem_of_mem_drop h
                    · exact List.mem_of_mem_take h)
                  generalize hR : ws.drop k ++ ws.take k = R at *
                  have HRE := Lib.hid hR
                  clear hR
                  rw [hrl] at HO5 HBX
                  have HRL := Lib.hid hrl
                  clear hrl
                  have hcb : ∀ W, Below w2.heap.size w2 W → W.cell? ⟨qb, 0, none⟩ = some (.slice A8 ws.length c8) := fun W hW => by
                    have h1 : w2.cell? ⟨qb, 0, none⟩ = some (.slice A8 ws.length c8) := by rw [cell_of_row _ _ _ _ _ _ HBX.out]; rfl
                    exact (hW.cell (p := ⟨qb, 0, none⟩) (World.block_lt_of_cell? w2 _ h1)).trans h1
                  have HCB := Lib.hid hcb
                  have hT2 : Tab w2 (.slice AL L.length cL) L := by
                    obtain ⟨F1, h1⟩ := HOL.out
                    exact (h1.below' HS5.out).out.tab
                  have hiR : IntsAt w2 (.slice A8 ws.length c8) R := by
                    have h := HO5.out
                    rw [← HRL.out] at h
                    have h2 := OwnI.ints h HFR.out
                    rwa [HRL.out] at h2
                  have hany : L.any (fun v => decide (v = R)) = decide (R ∈ L) := by rw [Bool.eq_iff_iff]; simp
                  have hHAS := has81_any 190 #[.pointer (some ⟨qb, 0, none⟩)] (fun v => decide (v = R)) w2 call190 (.slice AL L.length cL) L hT2 (fun W u j hW hj hI => eq190_any W u _ qb _ R hI (hiR.below hW) (hcb W hW))
                  rw [hany] at hHAS
                  have HAS := Lib.hid hHAS
                  clear hcb hT2 hiR hany hHAS
                  cases hin : decide (R ∈ L) with
                  | true =>
                    have HNX : Hid (rotTo Lm ws x (k + 1) = L) := Lib.hid (HSTEP.out.2 (fun h => h.2 (of_decide_eq_true hin)))
                    rw [hin] at HAS
                    clear hin
                    go_wp2_with (go_at_call 105; (with_reducible refine HAS.out.mono ?_); rintro E w3 ⟨rfl, hb3⟩; have HB3 := Lib.hid hb3; clear hb3)
                    go_roundw
                    case rel => exact ⟨k + 1, AL, cL, by go_num, by omega, by rw [HNX.out], Lib.hid (by rw [HNX.out]; obtain ⟨F1, h⟩ := HOL.out; exact ⟨F1, (h.below' HS5.out).below' HB3.out⟩), Lib.hid (HGR.out.trans ((Grw.of_below HS5.out _).trans (Grw.of_below HB3.out _)))⟩
                    case measure => simp [intOf]; omega
                  | false =>
                    have HNX : Hid (rotTo Lm ws x (k + 1) = L ++ [R]) := Lib.hid (HSTEP.out.1 ⟨HKX.out, of_decide_eq_false hin⟩)
                    rw [hin] at HAS
                    clear hin
                    go_wp2_with (first
                      | (go_at_call 105; (with_reducible refine HAS.out.mono ?_); rintro E w3 ⟨rfl, hb3⟩
                         have hcq := HCB.out _ hb3
                         have hDN : ∃ A' c' w', (Builtin.append_ #[31, 31] 31 #[.slice AL L.length cL, .slice (some ⟨w3.heap.size, 0, none⟩) 1 1]).run Try.prog (w3.alloc (.cells #[.slice A8 ws.length c8] 25)) = .ok (.slice A' (L.length + 1) c') w' ∧ (∃ F1, OutSt 25 F1 w0 w' (.slice A' (L.length + 1) c') (L ++ [R])) ∧ Grw wm w' vm (.slice A' (L.length + 1) c') := by
                           obtain ⟨F1, h⟩ := HOL.out
                           have h9 := (h.with_row HS5.out HO5.out).below' hb3
                           obtain ⟨A', c', w', hr, h1, h2⟩ := h9.done2 (t := 31) (by decide) Try.underlying31 info25p HFR.out (by have := HLL.out; omega)
                           exact ⟨A', c', w', hr, ⟨_, h1⟩, HGR.out.trans ((Grw.of_below HS5.out _).trans ((Grw.of_below hb3 _).trans h2))⟩
                         obtain ⟨A', c', w', hr, h1, h2⟩ := hDN
                         have HR := Lib.hid hr
                         have H1 := Lib.hid h1
                         have H2 := Lib.hid h2
                         clear hr h1 h2 hb3)
                      | ((with_reducible refine wpList_sel 54 ?_); refine wpList_val rfl (r_app (.tmp 51) (.tmp 53) 31 rfl rfl rfl HR.out) ?_))
                    go_roundw
                    case rel => exact ⟨k + 1, A', c', by go_num, by omega, by rw [HNX.out, List.length_append]; rfl, Lib.hid (by rw [HNX.out]; exact H1.out), H2⟩
                    case measure => simp [intOf]; omega
              · have HNX : Hid (rotTo Lm ws x (k + 1) = L) := Lib.hid (HSTEP.out.2 (fun h => hkx h.1))
                generalize ws.getD k 0 = z at *
                have d1 : (z == x) = false := by rw [beq_eq_false_iff_ne]; exact hkx
                clear hv1 hv2
                go_wp2_with fail
                go_roundw
                case rel => exact ⟨k + 1, AL, cL, by go_num, by omega, by rw [HNX.out], Lib.hid (by rw [HNX.out]; exact HOL.out), HGR⟩
                case measure => simp [intOf]; omega
            · obtain rfl : k = ws.length := by omega
              go_wp2_with fail
              go_roundw
              case rel => exact ⟨j + 1, AL, cL, by go_num, by omega, by rw [HNM.out]; rfl, Lib.hid (by rw [HNM.out]; exact HOL.out), HGR⟩
              case measure => simp [intOf]; omega
        · obtain rfl : j = 2 := by omega
          go_wp2_with fail
          go_roundw
          case rel => exact ⟨i + 1, AM, cM, by go_num, by omega, by rw [HWS.out], Lib.hid (by rw [HWS.out]; exact HOM.out)⟩
          case measure => simp [intOf]; omega
    · obtain rfl : i = rels.length := by omega
      have HLE : ∃ L, L = wordsTo2 rels x rels.length := ⟨_, rfl⟩
      obtain ⟨L, hL⟩ := HLE
      have HL := Lib.hid hL
      rw [← hL] at HO ⊢
      clear hL hlt hi hbl
      go_wp2_with fail
      go_ret
      obtain ⟨F1, h⟩ := HO.out
      rw [← HL.out]
      exact ⟨⟨_, _, rfl, h.tabB.mono HB0.out.size⟩, HB0.out.trans (h.below.mono HB0.out.size)⟩
end Go.Proofs
namespace Go.Proofs
open Go.RowKit Go.Shelf Go.Proofs.Ct Go.Maps
def wordsE (g : Int) (rels : List W) (x : Int) : List W × Int := if presE g rels ≠ 0 then ([], presE g rels) else if x = 0 ∨ x < -g ∨ g < x then ([], 2) else (wordsX rels x, 0)
def WordsEPost (g : Int) (rels : List W) (x : Int) (w : World) (e : Ending) (w' : World) : Prop :=
  (∃ A c, e = .returned (.tuple #[.slice A (wordsE g rels x).1.length c, .int .i64 (wordsE g rels x).2]) ∧ TabB w.heap.size w' (.slice A (wordsE g rels x).1.length c) (wordsE g rels x).1) ∧ Below w.heap.size w w'
theorem mild_of_lets {g : Nat} {ws : W} (hg : g ≤ 16) (h : LetsOk g ws) : ∀ z ∈ ws, Mild z := fun z hz => by
  have := h z hz
  unfold Mild
  omega
theorem mild_rels {g : Nat} {rels : List W} (hg : g ≤ 16) (h : ∀ j, j < rels.length → LetsOk g (rels.getD j []) ∧ (rels.getD j []).length ≤ 4000) : ∀ j, ∀ z ∈ rels.getD j [], Mild z := fun j z hz => by
  rcases Nat.lt_or_ge j rels.length with hj | hj
  · exact mild_of_lets hg (h j hj).1 z hz
  · rw [List.getD_eq_getElem?_getD, List.getElem?_eq_none hj] at hz; cases hz
theorem WordsEPost.err {g : Int} {rels : List W} {x z : Int} {w w' : World} (h : wordsE g rels x = ([], z)) (hb : Below w.heap.size w w') : WordsEPost g rels x w (.returned (.tuple #[.slice none 0 0, .int .i64 z])) w' := by
  unfold WordsEPost
  rw [h]
  exact ⟨⟨_, _, rfl, TabB.nil⟩, hb⟩
theorem WordsEPost.ok {g : Int} {rels : List W} {x : Int} {w w' : World} {A : Option Addr} {c : Nat} (h : wordsE g rels x = (wordsX rels x, 0)) (hb : Below w.heap.size w w') (ht : TabB w.heap.size w' (.slice A (wordsX rels x).length c) (wordsX rels x)) : WordsEPost g rels x w (.returned (.tuple #[.slice A (wordsX rels x).length c, .int .i64 0])) w' := by
  unfold WordsEPost
  rw [h]
  exact ⟨⟨_, _, rfl, ht⟩, hb⟩
set_option maxRecDepth 100000 in
set_option maxHeartbeats 1000000 in
theorem words80_any (w : World) (vr : Value) (rels : List W) (g x : Int) (hR : Tab w vr rels) (hx1 : -9223372036854775808 ≤ x) (hx2 : x ≤ 9223372036854775807) (hlen : ∀ j, (rels.getD j []).length ≤ 100) :
    Calls Try.prog 80 #[.agg #[.int .i64 g, vr], .int .i64 x] w (WordsEPost g rels x w) := by
  obtain ⟨Ar, cr, rfl⟩ := Tab.form hR
  have H78 : Hid (∀ W, Tab W (.slice Ar rels.length cr) rels → Calls Try.prog 102 #[.agg #[.int .i64 g, .slice Ar rels.length cr]] W fun e w' => (∃ y, e = .returned (.tuple #[.int .i64 (presE g rels), .int .i64 y])) ∧ Below W.heap.size W w') := Lib.hid fun W h => pcheck78_any W _ _ rels h
  have HP : Hid (∀ W, W = w.alloc (.cells #[.int .i64 g, .slice Ar rels.length cr] 40) → Below w.heap.size w W ∧ W.heap[w.heap.size]? = some (.cells #[.int .i64 g, .slice Ar rels.length cr] 40 (0, 0))) := Lib.hid fun W h => by
    subst h
    exact ⟨(Below.refl _ _).alloc (Nat.le_refl _) _, heap_alloc_new w _⟩
  have HRR := Lib.hid hR
  have HLEN := Lib.hid hlen
  clear hR hlen
  go_enter Try.func80, Try.ntmps80
  go_wp2_with fail
  generalize hw0 : w.alloc (.cells #[.int .i64 g, .slice Ar rels.length cr] 40) = w0 at *
  obtain ⟨hb0, hbx⟩ := HP.out w0 rfl
  have HB0 := Lib.hid hb0
  have HBX : Hid (∀ W, Below w0.heap.size w0 W → W.cell? ⟨w.heap.size, 0, none⟩ = some (.int .i64 g) ∧ W.cell? ⟨w.heap.size, 1, none⟩ = some (.slice Ar rels.length cr)) := Lib.hid fun W h => by
    obtain ⟨a, b⟩ := cell_of2 ((h.block _ (Array.getElem?_eq_some_iff.1 hbx).1).trans hbx)
    exact ⟨a, b⟩
  obtain ⟨hc0, hc1⟩ := HBX.out w0 (Below.refl _ _)
  have HT0 := Lib.hid (kept_tab.below HRR.out hb0)
  clear hw0 hb0 hbx HP
  by_cases he : presE g rels = 0
  · obtain ⟨gn, rfl, hg1, hg16, hrl, hrg⟩ := presE_good he
    have HMR := Lib.hid (mild_rels hg16 hrg)
    have d1 : (presE (gn : Int) rels != 0) = false := by simp [he]
    have HE := Lib.hid he
    have hg0 : (1 : Int) ≤ (gn : Int) := by omega
    have hgI : (gn : Int) ≤ 16 := by omega
    have HW : Hid (∀ W, Below w0.heap.size w0 W → Calls Try.prog 139 #[.agg #[.int .i64 (gn : Int), .slice Ar rels.length cr], .int .i64 x] W fun e w' => (∃ A c, e = .returned (.slice A (wordsX rels x).length c) ∧ TabB W.heap.size w' (.slice A (wordsX rels x).length c) (wordsX rels x)) ∧ Below W.heap.size W w') := Lib.hid fun W h => words139_any W _ rels gn x (kept_tab.below HT0.out h) hx1 hx2 HMR.out HLEN.out (by omega)
    have HBAD : Hid ((x = 0 ∨ x < -(gn : Int) ∨ (gn : Int) < x) → wordsE gn rels x = ([], 2)) := Lib.hid fun h => by unfold wordsE; rw [if_neg (by rw [HE.out]; simp), if_pos h]
    have HOK : Hid (¬ (x = 0 ∨ x < -(gn : Int) ∨ (gn : Int) < x) → wordsE gn rels x = (wordsX rels x, 0)) := Lib.hid fun h => by unfold wordsE; rw [if_neg (by rw [HE.out]; simp), if_neg h]
    clear hrg he
    generalize hxe : presE (gn : Int) rels = z at *
    clear hxe
    by_cases hbad : x = 0 ∨ x < -(gn : Int) ∨ (gn : Int) < x
    · have HBA := Lib.hid (HBAD.out hbad)
      clear HBAD HOK HW
      rcases hbad with rfl | h2 | h3
      · go_wp2_with (go_at_call 102; (with_reducible refine (H78.out w0 HT0.out).mono ?_); rintro e w1 ⟨⟨y, rfl⟩, hb⟩
                     obtain ⟨hc0', hc1'⟩ := HBX.out _ hb
                     have HB1 := Lib.hid hb
                     clear hb)
        go_ret2
        exact WordsEPost.err HBA.out (HB0.out.trans (HB1.out.mono HB0.out.size))
      · have d2 : (x == 0) = false := by rw [beq_eq_false_iff_ne]; omega
        go_wp2_with (go_at_call 102; (with_reducible refine (H78.out w0 HT0.out).mono ?_); rintro e w1 ⟨⟨y, rfl⟩, hb⟩
                     obtain ⟨hc0', hc1'⟩ := HBX.out _ hb
                     have HB1 := Lib.hid hb
                     clear hb)
        go_ret2
        exact WordsEPost.err HBA.out (HB0.out.trans (HB1.out.mono HB0.out.size))
      · have d2 : (x == 0) = false := by rw [beq_eq_false_iff_ne]; omega
        have d3 : ¬ x < -(gn : Int) := by omega
        go_wp2_with (go_at_call 102; (with_reducible refine (H78.out w0 HT0.out).mono ?_); rintro e w1 ⟨⟨y, rfl⟩, hb⟩
                     obtain ⟨hc0', hc1'⟩ := HBX.out _ hb
                     have HB1 := Lib.hid hb
                     clear hb)
        go_ret2
        exact WordsEPost.err HBA.out (HB0.out.trans (HB1.out.mono HB0.out.size))
    · have HOK2 := Lib.hid (HOK.out hbad)
      have d2 : (x == 0) = false := by rw [beq_eq_false_iff_ne]; omega
      have d3 : ¬ x < -(gn : Int) := by omega
      have d4 : ¬ (gn : Int) < x := by omega
      clear HBAD HOK hbad
      go_wp2_with (first
        | (go_at_call 102; (with_reducible refine (H78.out w0 HT0.out).mono ?_); rintro e w1 ⟨⟨y, rfl⟩, hb⟩
           obtain ⟨hc0', hc1'⟩ := HBX.out _ hb
           have HB1 := Lib.hid hb
           clear hb)
        | (go_at_call 139; (with_reducible refine (HW.out w1 HB1.out).mono ?_); rintro e w2 ⟨⟨A2, c2, rfl, ht⟩, hb⟩
           have HB2 := Lib.hid hb
           have HT2 := Lib.hid ht
           clear hb ht))
      go_ret2
      exact WordsEPost.ok HOK2.out (HB0.out.trans ((HB1.out.trans (HB2.out.mono HB1.out.size)).mono HB0.out.size)) (HT2.out.low (Nat.le_trans HB0.out.size HB1.out.size))
  · have HE2 : Hid (wordsE g rels x = ([], presE g rels)) := Lib.hid (by unfold wordsE; rw [if_pos he])
    have d1 : (presE g rels != 0) = true := by simp [he]
    clear he
    generalize presE g rels = z at *
    go_wp2_with (go_at_call 102; (with_reducible refine (H78.out w0 HT0.out).mono ?_); rintro e w1 ⟨⟨y, rfl⟩, hb⟩
                 have HB1 := Lib.hid hb
                 clear hb)
    go_ret2
    exact WordsEPost.err HE2.out (HB0.out.trans (HB1.out.mono HB0.out.size))
end Go.Proofs
namespace Go.Proofs.Ct
structure Fine (g : Nat) (f : FS) : Prop where
  g1 : 1 ≤ g
  g16 : g ≤ 16
  rest : FRest g f
  n : f.s.t.length ≤ 1000
  pot : pot (2 * g) f ≤ 100000000 * f.s.t.length
theorem Fine.k {g : Nat} {f : FS} (h : Fine g f) : f.k.length + f.s.t.length * (2 * g) ≤ 1000000000000 := by
  have h1 := h.pot
  have h2 := h.n
  have h3 : f.s.t.length * (2 * g) ≤ 1000 * 32 := Nat.mul_le_mul h2 (by have := h.g16; omega)
  unfold Ct.pot at h1
  omega
theorem Fine.ext {g : Nat} {f f' : FS} (h : Fine g f) (k : FExt g f f') : Fine g f' := ⟨h.g1, h.g16, k.rest, by rw [k.n]; exact h.n, by rw [k.n]; exact Nat.le_trans k.less h.pot⟩
theorem Fine.pop {g : Nat} {f : FS} (h : Fine g f) : Fine g f.pop := ⟨h.g1, h.g16, pop_F h.rest, h.n, Nat.le_trans pop_less h.pot⟩
theorem Fine.defn {g : Nat} {f : FS} (h : Fine g f) {r c : Nat} (hF : FRest g (defF (2 * g) f r c)) (hn : f.s.t.length < 1000) : Fine g (defF (2 * g) f r c) := by
  have hl : (defF (2 * g) f r c).s.t.length = f.s.t.length + 1 := length_def (2 * g) r c
  refine ⟨h.g1, h.g16, hF, by omega, ?_⟩
  have h1 := h.pot
  have hlv : (defF (2 * g) f r c).s.live ≤ (f.s.t.length : Int) + 1 := by
    have h2 := hF.rest.lv
    omega
  have hk : (defF (2 * g) f r c).k.length = f.k.length + 1 := by show (f.k ++ [(r, c)]).length = _; simp
  have hu : undT (defF (2 * g) f r c).s.t ≤ (f.s.t.length + 1) * (2 * g) := by
    rw [← hl]
    exact und_le fun r hr => hF.rest.inv.len r hr
  have h3 : (f.s.t.length + 1) * (2 * g) ≤ 1000 * 32 := Nat.mul_le_mul (by omega) (by have := h.g16; omega)
  have h4 : f.k.length ≤ Ct.pot (2 * g) f := by unfold Ct.pot; omega
  have h5 : (defF (2 * g) f r c).s.live.toNat * (3 * ((f.s.t.length + 1) * (2 * g)) + 1) ≤ 1000 * 96001 := Nat.mul_le_mul (by omega) (by omega)
  unfold Ct.pot at h1 h4 ⊢
  rw [hl, hk]
  omega
theorem scansTo_stop {m r : Nat} {ws : List W} {f : FS} {k : Nat} (h : (scansTo m r ws k f).s.rp r ≠ r) : ∀ j, k ≤ j → scansTo m r ws j f = scansTo m r ws k f
  | 0, hj => by obtain rfl : k = 0 := by omega
                rfl
  | j + 1, hj => by
    rcases Nat.lt_or_ge j k with h' | h'
    · obtain rfl : k = j + 1 := by omega
      rfl
    · have ih := scansTo_stop h j h'
      have e : scansTo m r ws (j + 1) f = (fun i f => if f.s.rp r = r then (scanF m f r (ws.getD i [])).1 else f) j (scansTo m r ws j f) := rfl
      rw [e, ih]
      exact if_neg h
theorem scansTo_succ {m r : Nat} {ws : List W} {f : FS} {k : Nat} (h : (scansTo m r ws k f).s.rp r = r) : scansTo m r ws (k + 1) f = (scanF m (scansTo m r ws k f) r (ws.getD k [])).1 := by
  have e : scansTo m r ws (k + 1) f = (fun i f => if f.s.rp r = r then (scanF m f r (ws.getD i [])).1 else f) k (scansTo m r ws k f) := rfl
  rw [e]
  exact if_pos h
theorem scansTo_ext {g : Nat} {ws : List W} {f : FS} (hw : ∀ j, j < ws.length → LOk g (ws.getD j [])) (h : FRest g f) {r : Nat} (hr : r < f.s.t.length) {n : Nat} (hn : n ≤ ws.length) : FExt g f (scansTo (2 * g) r ws n f) := by
  obtain ⟨i1, i2, i3, i4, i5⟩ := scansTo_F hw h hr n hn
  exact ⟨i1, i2, i3, i4, i5⟩
end Go.Proofs.Ct
namespace Go.Proofs
open Go.RowKit Go.Shelf Go.Proofs.Ct Go.Maps
set_option maxRecDepth 100000 in
set_option maxHeartbeats 4000000 in
theorem scans147_any (K : Nat → Prop) (T : TypeId) (ex : List Value) (bl cs : Nat → Nat) (g m base b lim r : Nat) (hm : m = 2 * g) (w : World) (f : FS) (v : Value) (ws : List W) (hT : TyF T) (hR : Fine g f) (hS : StFB K T ex bl cs base b m lim w f) (hbw : base ≤ w.heap.size)
    (hv : ∀ W, Keeps base K w W → Tab W v ws) (hl : ∀ j, j < ws.length → LOk g (ws.getD j [])) (hwl : ∀ j, (ws.getD j []).length ≤ 1000000) (hr : r < f.s.t.length) :
    Calls Try.prog 147 #[.pointer (some ⟨b, 0, none⟩), .int .i64 (r : Int), v] w fun e w' => e = .returned (.tuple #[]) ∧ StFB K T ex bl cs base b m lim w' (scansF m f r ws) ∧ Keeps base K w w' := by
  obtain ⟨A, c, rfl⟩ := Tab.form (hv w (Keeps.refl _ _ _))
  have HT := Lib.hid hT
  have HV : Hid (∀ W, Keeps base K w W → ∀ k, k < ws.length → ∃ bg og u, A = some ⟨bg, og, none⟩ ∧ W.cell? ⟨bg, og + k, none⟩ = some u ∧ IntsAt W u (ws.getD k [])) := Lib.hid fun W h k hk => by
    obtain ⟨A', c', e, -, -, hcc⟩ := LAt.open_ (hv W h)
    obtain ⟨rfl, -, rfl⟩ := Value.slice.inj e
    obtain ⟨bg, og, rfl, hrow⟩ := hcc (by omega)
    obtain ⟨u, hu, hiu⟩ := hrow k hk
    exact ⟨bg, og, u, rfl, hu, hiu⟩
  have hws : (ws.length : Int) ≤ 9223372036854775807 := by
    obtain ⟨A', c', e, h1, h2, -⟩ := LAt.open_ (hv w (Keeps.refl _ _ _))
    obtain ⟨-, -, rfl⟩ := Value.slice.inj e
    omega
  have HX : Hid (∀ k, k ≤ ws.length → Fine g (scansTo m r ws k f) ∧ (scansTo m r ws k f).s.t.length = f.s.t.length) := Lib.hid fun k hk => by
    have h := scansTo_ext hl hR.rest hr hk
    rw [hm]
    exact ⟨hR.ext h, h.n⟩
  have HL := Lib.hid hl
  have HWL := Lib.hid hwl
  have HBW := Lib.hid hbw
  have HM := Lib.hid hm
  have HS0 : Hid (StFB K T ex bl cs base b m lim w (scansTo m r ws 0 f)) := Lib.hid hS
  have hws0 : (0 : Int) ≤ (ws.length : Int) := Int.natCast_nonneg _
  have HSF : Hid (scansF m f r ws = scansTo m r ws ws.length f) := Lib.hid rfl
  clear hS hv hl hwl hbw hT hR hm
  generalize scansF m f r ws = se at *
  go_enter Try.func147, Try.ntmps147
  go_wp2_with fail
  go_loopw [10] (fun i wr => ∃ k : Nat, i = .int .i64 (k : Int) ∧ k ≤ ws.length ∧ Hid (StFB K T ex bl cs base b m lim wr (scansTo m r ws k f)) ∧ Hid (Keeps base K w wr)) (fun i _ => ws.length - (intOf i).toNat)
  case atStart => exact ⟨0, rfl, Nat.zero_le _, HS0, Lib.hid (Keeps.refl _ _ _)⟩
  case round =>
    clear HS0
    obtain ⟨k, rfl, hk, HS, HB⟩ := hrel
    have hk0 : (0 : Int) ≤ (k : Int) := Int.natCast_nonneg _
    by_cases hlt : k < ws.length
    · have hlt' : (k : Int) < (ws.length : Int) := by omega
      obtain ⟨hF, hn⟩ := HX.out k hk
      have hr' : r < (scansTo m r ws k f).s.t.length := by omega
      obtain ⟨bg, og, u, rfl, hu, hiu⟩ := HV.out wr HB.out k hlt
      obtain ⟨Au, cu, rfl, -, -, -⟩ := hiu.open_
      have HIU := Lib.hid hiu
      have HAL := Lib.hid (alive198_any K T ex bl cs base b m lim r wr _ HS.out hr')
      clear hiu
      by_cases hal : (scansTo m r ws k f).s.rp r = r
      · rw [decide_eq_true hal] at HAL
        have HN := Lib.hid (scansTo_succ hal)
        have hkk : (scansTo m r ws k f).k.length + (scansTo m r ws k f).s.t.length * m ≤ 1000000000000 := by
          have h := hF.k
          rw [← HM.out] at h
          exact h
        have HSC : Hid (Calls Try.prog 196 #[.pointer (some ⟨b, 0, none⟩), .int .i64 (r : Int), .slice Au (ws.getD k []).length cu] wr fun e w' => e = .returned (openV (scanF m (scansTo m r ws k f) r (ws.getD k [])).2) ∧ StFB K T ex bl cs base b m lim w' (scansTo m r ws (k + 1) f) ∧ Keeps base K wr w') := Lib.hid (by
          rw [HN.out]
          exact scan196_any K T ex bl cs g m base b lim r HM.out hF.g1 hF.g16 wr (scansTo m r ws k f) (.slice Au (ws.getD k []).length cu) (ws.getD k []) HT.out hF.rest.rest HS.out (Nat.le_trans HBW.out HB.out.size) (by have := hF.n; omega) HIU.out (HL.out k hlt) (HWL.out k) hr' hkk)
        generalize openV (scanF m (scansTo m r ws k f) r (ws.getD k [])).2 = ov at *
        clear hal hF hn HN hkk HIU
        generalize ws.getD k [] = row at *
        go_wp2_with fail
        refine HAL.out.mono ?_
        rintro e w1 ⟨rfl, rfl⟩
        go_wp2_with fail
        refine HSC.out.mono ?_
        rintro e w2 ⟨rfl, hs, hb⟩
        have HS2 := Lib.hid hs
        have HB2 := Lib.hid (HB.out.trans hb)
        clear hs hb
        go_wp2_with fail
        go_roundw
        case rel => exact ⟨k + 1, by go_num, by omega, HS2, HB2⟩
        case measure => simp [intOf]; omega
      · rw [decide_eq_false hal] at HAL
        have HE : Hid (se = scansTo m r ws k f) := Lib.hid (by rw [HSF.out]; exact scansTo_stop hal _ hk)
        clear hal hF hn HIU
        generalize ws.getD k [] = row at *
        go_wp2_with fail
        refine HAL.out.mono ?_
        rintro e w1 ⟨rfl, rfl⟩
        go_wp2_with fail
        try simp only [Exit.inBlock, Exit.then]
        refine bodyPost_ret (results_none rfl _ _ _) rfl ?_
        exact ⟨rfl, by rw [HE.out]; exact HS.out, HB.out⟩
    · obtain rfl : k = ws.length := by omega
      go_wp2_with fail
      go_end0
      exact ⟨rfl, by rw [HSF.out]; exact HS.out, HB.out⟩
end Go.Proofs
namespace Go.Proofs
open Go.RowKit Go.Shelf Go.Proofs.Ct Go.Maps
theorem StF.rowsIn {K : Nat → Prop} {T : TypeId} {ex : List Value} {base b m lim : Nat} {w : World} {f : FS} (h : StF K T ex base b m lim w f) : rowsIn b w = f.s.t.length := by
  obtain ⟨bl, cs, h⟩ := h
  obtain ⟨A, c, hc⟩ := h.rows
  unfold Go.Proofs.rowsIn
  rw [hc]
set_option maxRecDepth 100000 in
set_option maxHeartbeats 4000000 in
theorem fill144_any (K : Nat → Prop) (T : TypeId) (ex : List Value) (g m base b lim : Nat) (hm : m = 2 * g) (w : World) (f : FS) (u : Value) (ws : W) (hT : TyF T) (hF : Fine g f) (hG : FGood g lim f) (hS : StF K T ex base b m lim w f) (hbw : base ≤ w.heap.size) (hlim : lim ≤ 1000) (hn : f.s.t.length ≤ lim)
    (hu : ∀ W, Keeps base K w W → IntsAt W u ws) (hl : LOk g ws) (hwl : ws.length ≤ 1000000) (h0 : 0 < f.s.t.length) (h00 : f.s.rp 0 = 0) :
    Calls Try.prog 144 #[.pointer (some ⟨b, 0, none⟩), u] w fun e w' => ((∃ f', fillFS m lim f 0 ws = some f' ∧ e = .returned (.tuple #[]) ∧ StF K T ex base b m lim w' f' ∧ Fine g f') ∨ (fillFS m lim f 0 ws = none ∧ e = .panicked fullF)) ∧ Keeps base K w w' := by
  have HREL : Hid (StF K T ex base b m lim w f ∧ Fine g f ∧ FGood g lim f ∧ f.s.t.length ≤ lim ∧ 0 < f.s.t.length ∧ f.s.rp 0 = 0) := Lib.hid ⟨hS, hF, hG, hn, h0, h00⟩
  generalize hfe : fillFS m lim f 0 ws = F at *
  have HBW := Lib.hid hbw
  have HUU := Lib.hid hu
  have HL := Lib.hid hl
  have HM := Lib.hid hm
  have HT := Lib.hid hT
  clear hF hG hS hu hl hn hbw h0 h00 hT
  have HFE := Lib.hid hfe
  clear hfe
  go_enter Try.func144, Try.ntmps144
  go_wp2_with fail
  go_loopw [4] (fun _ wr => ∃ f1 : FS, Hid (StF K T ex base b m lim wr f1 ∧ Fine g f1 ∧ FGood g lim f1 ∧ f1.s.t.length ≤ lim ∧ 0 < f1.s.t.length ∧ f1.s.rp 0 = 0) ∧ Hid (fillFS m lim f1 0 ws = F) ∧ Hid (Keeps base K w wr)) (fun _ wr => lim + 1 - rowsIn b wr)
  case atStart => exact ⟨f, HREL, HFE, Lib.hid (Keeps.refl _ _ _)⟩
  case round =>
    obtain ⟨f1, HI, HF1, HB⟩ := hrel
    clear HREL HFE
    obtain ⟨⟨bl, cs, h1⟩, h2, h3, h4, h5, h6⟩ := HI.out
    obtain ⟨k1, k2⟩ := scan_F h3.rest h5 h6 HL.out
    rw [← HM.out] at k1 k2
    have hstep := fillFS_step (m := m) (r := 0) (w := ws) h4
    rw [HF1.out] at hstep
    have hkk := h2.k
    rw [← HM.out] at hkk
    have HSC := Lib.hid (scan196_any K T ex bl cs g m base b lim 0 HM.out h2.g1 h2.g16 wr f1 u ws HT.out h2.rest.rest h1 (Nat.le_trans HBW.out HB.out.size) (by omega) (HUU.out wr HB.out) HL.out hwl h5 hkk)
    cases hsc : scanF m f1 0 ws with
    | mk f2 o =>
      rw [hsc] at HSC hstep
      rw [hsc] at k1 k2
      cases o with
      | none =>
        have HE : Hid (F = some f2) := Lib.hid hstep
        have HFN : Hid (Fine g f2) := Lib.hid (h2.ext ⟨k1.1, k1.2.1, k1.2.2.1, k1.2.2.2.1, k1.2.2.2.2⟩)
        have HSC' : Hid (Calls Try.prog 196 #[.pointer (some ⟨b, 0, none⟩), .int .i64 0, u] wr fun e w' => e = .returned (.tuple #[.int .i64 0, .int .i64 0, .bool false]) ∧ StFB K T ex bl cs base b m lim w' f2 ∧ Keeps base K wr w') := Lib.hid HSC.out
        clear k1 k2 hstep HSC h1 h2 h3 h4 h5 h6 hsc hkk
        go_wp2_with (first
          | (go_at_call 196; (with_reducible refine HSC'.out.mono ?_); rintro E w1 ⟨rfl, hs1, hb1⟩
             have HS1 := Lib.hid hs1
             have HB1 := Lib.hid (HB.out.trans hb1)
             clear hs1 hb1))
        try simp only [Exit.inBlock, Exit.then]
        refine bodyPost_ret (results_none rfl _ _ _) rfl ?_
        exact ⟨.inl ⟨f2, HE.out, rfl, ⟨bl, cs, HS1.out⟩, HFN.out⟩, HB1.out⟩
      | some fc =>
        obtain ⟨z, c⟩ := fc
        obtain ⟨e1, j1, j2, j3, j4⟩ := k2 _ _ rfl
        have e1 : f2 = f1 := e1
        subst e1
        have HSC' : Hid (Calls Try.prog 196 #[.pointer (some ⟨b, 0, none⟩), .int .i64 0, u] wr fun e w' => e = .returned (.tuple #[.int .i64 (z : Int), .int .i64 (c : Int), .bool true]) ∧ StFB K T ex bl cs base b m lim w' f2 ∧ Keeps base K wr w') := Lib.hid HSC.out
        have hcm : c < m := j2
        have j2 : c < 2 * g := by rw [← HM.out]; exact hcm
        have hn1 := h2.n
        have hk1 : f2.k.length ≤ 1000000000000 := by have h := h2.k; omega
        by_cases hfull : lim ≤ f2.s.t.length
        · have HE : Hid (F = none) := Lib.hid (by rw [hstep]; exact if_pos hfull)
          have HD : Hid (∀ W, StFB K T ex bl cs base b m lim W f2 → base ≤ W.heap.size → Calls Try.prog 197 #[.pointer (some ⟨b, 0, none⟩), .int .i64 (z : Int), .int .i64 (c : Int)] W fun e w' => e = .panicked fullF ∧ Keeps base K W w') := Lib.hid fun W h hw =>
            define197_full K T ex bl cs m base b lim z c W f2 h hw (by omega) hfull
          clear k1 k2 hstep HSC h1 h2 h3 h4 h5 h6 hsc j1 j2 j3 j4 hn1 hk1 hfull hcm hkk
          go_wp2_with (first
            | (go_at_call 196; (with_reducible refine HSC'.out.mono ?_); rintro E w1 ⟨rfl, hs1, hb1⟩
               have HS1 := Lib.hid hs1
               have HB1 := Lib.hid (HB.out.trans hb1)
               clear hs1 hb1)
            | (go_at_call 197; (with_reducible refine (HD.out _ HS1.out (Nat.le_trans HBW.out HB1.out.size)).mono ?_); rintro E w2 ⟨rfl, hb2⟩
               have HB2 := Lib.hid (HB1.out.trans hb2)
               clear hb2))
          exact ⟨rfl, .inr ⟨HE.out, rfl⟩, HB2.out⟩
        · have HE : Hid (fillFS m lim (defF m f2 z c) 0 ws = F) := Lib.hid (by rw [hstep]; exact (if_neg hfull).symm)
          have HD : Hid (∀ W, StFB K T ex bl cs base b m lim W f2 → base ≤ W.heap.size → Calls Try.prog 197 #[.pointer (some ⟨b, 0, none⟩), .int .i64 (z : Int), .int .i64 (c : Int)] W fun e w' => e = .returned (.tuple #[]) ∧ StF K T ex base b m lim w' (defF m f2 z c) ∧ Keeps base K W w') := Lib.hid fun W h hw =>
            define197_any K T ex bl cs g m base b lim z c HM.out h2.g16 W f2 HT.out h2.rest.rest h hw (by omega) j1 hcm (by omega) (by omega) hk1
          have hgd := (h3.defn j1 j2 j3 j4 (by omega)).1
          have HN : Hid (Fine g (defF m f2 z c) ∧ FGood g lim (defF m f2 z c) ∧ (defF m f2 z c).s.t.length ≤ lim ∧ 0 < (defF m f2 z c).s.t.length ∧ (defF m f2 z c).s.rp 0 = 0) := Lib.hid (by
            have hln : (defF m f2 z c).s.t.length = f2.s.t.length + 1 := length_def m z c
            refine ⟨?_, ?_, by omega, by omega, ?_⟩
            · rw [HM.out]
              exact h2.defn hgd.rest (by omega)
            · rw [HM.out]
              exact hgd
            · show (defS m f2.s z c).rp 0 = 0
              rw [rp_def_old h2.rest.rest.inv m z c h5]
              exact h6)
          have HRW : Hid (rowsIn b wr = f2.s.t.length) := Lib.hid (StF.rowsIn ⟨bl, cs, h1⟩)
          have HLEN : Hid ((defF m f2 z c).s.t.length = f2.s.t.length + 1) := Lib.hid (length_def m z c)
          have HLT : Hid (f2.s.t.length ≤ lim) := Lib.hid h4
          clear k1 k2 hstep HSC h1 h2 h3 h4 h5 h6 hsc j1 j2 j3 j4 hn1 hk1 hfull hcm HI hkk hgd
          generalize defF m f2 z c = f9 at *
          go_wp2_with (first
            | (go_at_call 196; (with_reducible refine HSC'.out.mono ?_); rintro E w1 ⟨rfl, hs1, hb1⟩
               have HS1 := Lib.hid hs1
               have HB1 := Lib.hid (HB.out.trans hb1)
               clear hs1 hb1)
            | (go_at_call 197; (with_reducible refine (HD.out _ HS1.out (Nat.le_trans HBW.out HB1.out.size)).mono ?_); rintro E w2 ⟨rfl, hs2, hb2⟩
               have HS2 := Lib.hid hs2
               have HB2 := Lib.hid (HB1.out.trans hb2)
               clear hs2 hb2))
          go_roundw
          case rel => exact ⟨f9, Lib.hid ⟨HS2.out, HN.out⟩, HE, HB2⟩
          case measure =>
            show lim + 1 - rowsIn b w2 < lim + 1 - rowsIn b wr
            rw [HRW.out, HS2.out.rowsIn, HLEN.out]
            have := HLT.out
            omega
end Go.Proofs
namespace Go.Proofs
open Go.RowKit Go.Shelf Go.Proofs.Ct Go.Maps
set_option maxRecDepth 100000 in
theorem letter143_any (w : World) (c : Nat) (hc : c ≤ 1000) : Calls Try.prog 143 #[.int .i64 (c : Int)] w fun e w' => e = .returned (.int .i64 (letter c)) ∧ w = w' := by
  have hc0 : (0 : Int) ≤ (c : Int) := Int.natCast_nonneg _
  have hc1 : (c : Int) ≤ 1000 := by omega
  have HL : Hid (letter c = ((c : Int) / 2 + 1) * (1 - 2 * ((c : Int) % 2))) := Lib.hid (by
    unfold letter
    by_cases h : c % 2 = 1
    · rw [if_pos h, show ((c : Int) % 2) = 1 by omega]; omega
    · rw [if_neg h, show ((c : Int) % 2) = 0 by omega]; omega)
  generalize letter c = l at *
  have h2 : (0 : Int) ≤ (c : Int) / 2 := by omega
  have h3 : (c : Int) / 2 ≤ 500 := by omega
  have h4 : (0 : Int) ≤ (c : Int) % 2 := by omega
  have h5 : (c : Int) % 2 ≤ 1 := by omega
  have h6 : -501 ≤ ((c : Int) / 2 + 1) * (1 - 2 * ((c : Int) % 2)) := by
    rcases (by omega : (c : Int) % 2 = 0 ∨ (c : Int) % 2 = 1) with e | e <;> rw [e] <;> omega
  have h7 : ((c : Int) / 2 + 1) * (1 - 2 * ((c : Int) % 2)) ≤ 501 := by
    rcases (by omega : (c : Int) % 2 = 0 ∨ (c : Int) % 2 = 1) with e | e <;> rw [e] <;> omega
  go_enter Try.func143, Try.ntmps143
  go_wp2_with fail
  go_ret
  exact ⟨ret_int HL.out.symm, rfl⟩
theorem under159 : Try.prog.underlying 159 = some (.map 3 31) := by kernel_rfl
theorem zero31 (w : World) : (zeroValue 31).run Try.prog w = .ok (.slice none 0 0) w := by kernel_rfl
def heldL (v : Value) : Option (DataW Value × List MemPlace) := some (.held v, [])
def MapL (w : World) (b n : Nat) (f : Int → Value) : Prop :=
  ∃ D, w.ownsMap (H := Value) Try.prog 3 heldL b n D ∧ ∀ s, I64 s → D.atKey (.int .i64 s) (.held (.slice none 0 0)) = .held (f s)
theorem MapL.made (w : World) : MapL (w.alloc (.map #[] 0)) w.heap.size 0 (fun _ => .slice none 0 0) :=
  ⟨.map [], World.ownsMap_made _ _ _ _, fun _ _ => rfl⟩
theorem MapL.lt {w : World} {b n : Nat} {f : Int → Value} (h : MapL w b n f) : b < w.heap.size := by
  obtain ⟨D, h2, -⟩ := h
  exact h2.lt
theorem MapL.keep {w w' : World} {b n : Nat} {f : Int → Value} (h : MapL w b n f) (hb : w'.heap[b]? = w.heap[b]?) : MapL w' b n f := by
  obtain ⟨D, ⟨es, clock, h1, h2⟩, h3⟩ := h
  exact ⟨D, ⟨es, clock, hb.trans h1, h2⟩, h3⟩
theorem MapL.look {w : World} {b n : Nat} {f : Int → Value} (h : MapL w b n f) {s : Int} (hs : I64 s) : (Instr.lookup 159 (.map (some b)) (.int .i64 s) false).run Try.prog w = .ok (f s) w := by
  obtain ⟨D, h2, h3⟩ := h
  obtain ⟨v, ps, hr, hv⟩ := h2.lookup (int_keyed Try.underlying3) under159 (zero31 w) (zd := .held (.slice none 0 0)) (zp := []) rfl (key3 hs)
  rw [h3 s hs] at hv
  have h4 : (some (DataW.held v, []) : Option (DataW Value × List MemPlace)) = some (DataW.held (f s), ps) := hv
  have h5 : v = f s := by simpa using (congrArg (fun x => x.map Prod.fst) h4)
  rw [← h5]
  exact hr
theorem MapL.put {w : World} {b n : Nat} {f : Int → Value} (h : MapL w b n f) {s : Int} (hs : I64 s) (hn : n ≤ 1000) (v : Value) :
    ∃ w', (Instr.mapUpdate 159 (.map (some b)) (.int .i64 s) v).run Try.prog w = .ok () w' ∧ MapL w' b (n + 1) (fun x => if x = s then v else f x) ∧ w.grownBy w' (some b) := by
  obtain ⟨D, h2, h3⟩ := h
  obtain ⟨w', hr, ho, hg⟩ := h2.update (val := v) (int_keyed Try.underlying3) under159 (by unfold maxLen; omega) (key3 hs) (d := .held v) (ps := []) rfl
  refine ⟨w', hr, ⟨_, ho, fun x hx => ?_⟩, hg⟩
  by_cases e : x = s
  · subst e
    have hkl : WideAt.IsKeyLit (Lit.int .i64 x) := by simp [WideAt.IsKeyLit]
    rw [Maps.atKey_put_same h2.isMap hkl]
    show DataW.held v = DataW.held (if x = x then v else f x)
    rw [if_pos rfl]
  · have hne : (Lit.int .i64 x) ≠ (Lit.int .i64 s) := fun h => e (by simpa using h)
    rw [Maps.atKey_put_other hne, h3 x hx]
    show DataW.held (f x) = DataW.held (if x = s then v else f x)
    rw [if_neg e]
theorem StFB.pairs {K : Nat → Prop} {T : TypeId} {ex : List Value} {bl cs : Nat → Nat} {base b wd lim : Nat} {w : World} {f : FS} (hS : StFB K T ex bl cs base b wd lim w f) : ∃ A c, w.cell? ⟨b, 5, none⟩ = some (.slice A f.k.length c) ∧ w.frozen? ⟨b, 5, none⟩ = false ∧ f.k.length ≤ c ∧ (0 < f.k.length → ∃ gk, A = some ⟨gk, 0, none⟩ ∧
    w.cell? ⟨gk, (f.k.length - 1) * 2, none⟩ = some (.int .i64 (f.top.1 : Int)) ∧ w.cell? ⟨gk, (f.k.length - 1) * 2 + 1, none⟩ = some (.int .i64 (f.top.2 : Int))) := by
  obtain ⟨hb, P, vr, vp, vq, vk, hB, hC, hK, hF⟩ := hS
  obtain ⟨A, c, rfl⟩ := owns_form2 hK
  refine ⟨A, c, hB.cells.2.2.2.2.2.1, hB.frozen 5, ?_, fun h0 => ?_⟩
  · obtain ⟨-, ho⟩ := hK
    rcases ho with ⟨-, h0⟩ | ⟨g, cap, cur, e, -, -, h1, -⟩
    · omega
    · obtain ⟨-, -, rfl⟩ := Value.slice.inj e
      exact h1
  · obtain ⟨gk, c', e, -, -, -, hcc⟩ := hK.cell h0
    obtain ⟨rfl, -, -⟩ := Value.slice.inj e
    have h1 := hcc (f.k.length - 1) (by omega)
    have h2 : f.top = f.k.getD (f.k.length - 1) (0, 0) := by
      unfold FS.top
      rw [List.getLastD_eq_getLast?, List.getLast?_eq_getElem?, List.getD_eq_getElem?_getD]
    rw [h2]
    exact ⟨gk, rfl, h1.1, h1.2⟩
theorem StFB.popd {K : Nat → Prop} {T : TypeId} {ex : List Value} {bl cs : Nat → Nat} {base b wd lim : Nat} {w : World} {f : FS} (hT : TyF T) (hS : StFB K T ex bl cs base b wd lim w f) {A : Option Addr} {c : Nat} (hc : w.cell? ⟨b, 5, none⟩ = some (.slice A f.k.length c)) :
    StFB K T ex bl cs base b wd lim (w.setCell ⟨b, 5, none⟩ (.slice A (f.k.length - 1) c)) f.pop ∧ Keeps base K w (w.setCell ⟨b, 5, none⟩ (.slice A (f.k.length - 1) c)) := by
  obtain ⟨hb, P, vr, vp, vq, vk, hB, hC, hK, hF⟩ := hS
  have h5 := hB.cells.2.2.2.2.2.1
  rw [hc] at h5
  cases h5
  have hK1 := hK.take (k := f.k.length - 1) (by omega)
  have hd : f.k.take (f.k.length - 1) = f.k.dropLast := (List.dropLast_eq_take ..).symm
  rw [hd] at hK1
  refine ⟨⟨hb, P, vr, vp, vq, _, (hB.upd5 (s' := f.pop.s) _ rfl rfl), hC.other hB.box hT.a hT.b 5 _, hK1.other hB.box hT.c 5 _, ⟨fun k hk => by rw [World.size_setCell]; exact hF.lt k hk, hF.box, hF.r, hF.p, hF.q, fun k hk => hF.k k (by cases A <;> exact hk), hF.row⟩⟩, (Keeps.refl _ _ _).setCell hb hF.box _⟩
end Go.Proofs
