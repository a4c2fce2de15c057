/- The reference's Relations of a valid presentation; Memory for own: values that read by blocks below a number, of given types; rows that grow; The law's own: a copy of a presentation. -/
import Derived.Test.YtnhoiompdjabbaaA14
namespace Go.Proofs
open Go.RowKit Go.Proofs.Pc

set_option maxRecDepth 100000 in
set_option maxHeartbeats 1000000 in
theorem rel26_good (w : World) (v0 v1 v2 : Value) (P : PcD) (hP : PcAt w v0 v1 v2 P) (he : (checkD P).1 = 0) (hn : 0 < P.n) :
    Calls Try.prog 26 #[.agg #[v0, v1, v2]] w (RelPost P w) := by
  have hv := valid_of_check he
  have hn12 : P.n ≤ 12 := hv.n12
  have hne : ((P.orders.length : Int) == 0) = false := by have h' : 0 < P.orders.length := hn; exact beq_eq_false_iff_ne.2 (by omega)
  have HV := Lib.hid hv
  have hb : Below w.heap.size w ((w.alloc (.cells #[v0, v1, v2] 26)).alloc (.cells #[.int .i64 0, .slice none 0 0] 46)) := allocs_below [.cells #[v0, v1, v2] 26, .cells #[.int .i64 0, .slice none 0 0] 46] w _ (Nat.le_refl _)
  have hg0 := allocs_get [.cells #[v0, v1, v2] 26, .cells #[.int .i64 0, .slice none 0 0] 46] w 0 _ rfl
  have hg := allocs_get [.cells #[v0, v1, v2] 26, .cells #[.int .i64 0, .slice none 0 0] 46] w 1 _ rfl
  have HC := Lib.hid (checkRef_ok _ v0 v1 v2 (hP.below hb) he)
  have hsz : ((w.alloc (.cells #[v0, v1, v2] 26)).alloc (.cells #[.int .i64 0, .slice none 0 0] 46)).heap.size = w.heap.size + 2 := by simp
  have HB := Lib.hid hb
  have HG : Hid (((w.alloc (.cells #[v0, v1, v2] 26)).alloc (.cells #[.int .i64 0, .slice none 0 0] 46)).heap[w.heap.size + 1]? = some (.cells #[.int .i64 0, .slice none 0 0] 46 (0, 0))) := Lib.hid hg
  have HG0 : Hid (((w.alloc (.cells #[v0, v1, v2] 26)).alloc (.cells #[.int .i64 0, .slice none 0 0] 46)).heap[w.heap.size]? = some (.cells #[v0, v1, v2] 26 (0, 0))) := Lib.hid hg0
  obtain ⟨⟨A0, c0, rfl⟩, ⟨A1, c1, rfl⟩, A2, c2, rfl⟩ := pc_slices hP
  have HP := Lib.hid hP
  have HE := Lib.hid he
  obtain ⟨i3, hi3, hz3, hs3, hb3⟩ := info3p
  obtain ⟨i50, hi50, hz50, hs50, hb50⟩ := info50p
  clear he hP hb hg hg0 hv
  go_enter Try.func26, Try.ntmps26
  go_wp2_with (first
    | (go_at_call 24
       (refine HC.out.mono ?_)
       rintro e w2 ⟨rfl, hb2⟩
       have hg2 : w2.heap[w.heap.size + 1]? = some (.cells #[.int .i64 0, .slice none 0 0] 46 (0, 0)) := (hb2.block _ (by rw [hsz]; omega)).trans HG.out
       have hg3 : w2.heap[w.heap.size]? = some (.cells #[.slice A0 P.orders.length c0, .slice A1 P.powers.length c1, .slice A2 P.conj.length c2] 26 (0, 0)) := (hb2.block _ (by rw [hsz]; omega)).trans HG0.out
       have hw2 : w.heap.size + 1 < w2.heap.size := (Array.getElem?_eq_some_iff.1 hg2).1
       have hc0 : w2.cell? ⟨w.heap.size, 0, none⟩ = some (.slice A0 P.orders.length c0) := (cell_of_row _ _ 0 _ _ _ hg3).trans rfl
       have hD2 : Bc w (.slice A0 P.orders.length c0) (.slice A1 P.powers.length c1) (.slice A2 P.conj.length c2) w2 := ⟨HB.out.trans (hb2.mono (by rw [hsz]; omega)), hg3⟩
       have HG2 := Lib.hid hg2
       have HD2 := Lib.hid hD2
       clear hg2 hb2 hg3 hD2))
  have hDW := HD2.out.step (W' := w2.alloc (.cells #[.int .i64 P.orders.length, .slice none 0 0] 46)) ((Below.refl _ _).alloc (Nat.le_refl _) _)
  have hOW : (w2.alloc (.cells #[.int .i64 P.orders.length, .slice none 0 0] 46)).heap[w2.heap.size]? = some (.cells #[.int .i64 P.n, .slice none 0 0] 46 (0, 0)) := heap_alloc_new w2 _
  have hGW : (w2.alloc (.cells #[.int .i64 P.orders.length, .slice none 0 0] 46)).heap[w.heap.size + 1]? = some (.cells #[.int .i64 0, .slice none 0 0] 46 (0, 0)) := (((Below.refl _ w2).alloc (Nat.le_refl _) _).block _ (by omega)).trans HG2.out
  have hWs : (w2.alloc (.cells #[.int .i64 P.orders.length, .slice none 0 0] 46)).heap.size = w2.heap.size + 1 := by simp
  clear HD2 HG2 HG0 HG HC HB hsz hc0
  generalize w2.alloc (.cells #[.int .i64 P.orders.length, .slice none 0 0] 46) = W at *
  generalize w2.heap.size = O at *
  have HI0 := Lib.hid (RelSt.start (lo := W.heap.size) (L := O) rfl hOW)
  have HDW := Lib.hid hDW
  have HGW := Lib.hid hGW
  have hOl : O < W.heap.size := by omega
  have hPn : P.orders.length = P.n := rfl
  have HN := Lib.hid hPn
  have HKW : Hid (∀ {hi : Nat} {wr : World} {rs : List (List Int)}, RelSt W.heap.size hi W wr O O P.n rs → Bc w (.slice A0 P.orders.length c0) (.slice A1 P.powers.length c1) (.slice A2 P.conj.length c2) wr) := Lib.hid (fun hS => ⟨HDW.out.below.trans (hS.to_below (Nat.le_refl _) (by omega) (by omega) (by omega)), (hS.old w.heap.size (by omega) (by omega) (by omega)).trans HDW.out.box⟩)
  clear hDW hOW hGW hWs hPn
  go_loopw [7, 8] (fun s7 s8 wr => ∃ i : Nat, i ≤ P.n ∧ s7 = .int .i64 (tot (relsI P i)) ∧ s8 = .int .i64 i ∧ RelSt W.heap.size wr.heap.size W wr O O P.n (relsI P i)) (fun _ s8 _ => P.n - (intOf s8).toNat)
  case atStart => exact ⟨0, Nat.zero_le _, rfl, by go_num, HI0.out⟩
  case round =>
    obtain ⟨i, hi, rfl, rfl, hS⟩ := hrel
    have HS := Lib.hid hS
    have HD := Lib.hid (HKW.out hS)
    have hk0 := HD.out.c0
    clear hS
    rename World => wa
    by_cases hlt : i < P.n
    · have hi0 : (0 : Int) ≤ (i : Int) := Int.natCast_nonneg _
      have hi12 : (i : Int) < 12 := by omega
      have hio : (i : Int) < (P.orders.length : Int) := by rw [HN.out]; omega
      have hip : (i : Int) < (P.powers.length : Int) := by rw [HV.out.npow]; omega
      have hoi := HV.out.ord2 i hlt
      obtain ⟨q, hq⟩ : ∃ q : Nat, P.ord i = (q : Int) := ⟨(P.ord i).toNat, by omega⟩
      have hq1 : q ≤ 1000 := by omega
      have HQ := Lib.hid hq
      have HFW := Lib.hid (few_I HV.out i hi)
      clear hoi hq
      go_wp2_with fail
      go_loopw [9, 10] (fun s9 s10 wr => ∃ m A c, m ≤ q ∧ s9 = .slice A (List.replicate m ((i : Int) + 1)).length c ∧ s10 = .int .i64 (m : Int) ∧ wr.ownsRow wa.heap.size 3 1 (.slice A (List.replicate m ((i : Int) + 1)).length c) (List.replicate m ((i : Int) + 1)).length (ints (List.replicate m ((i : Int) + 1))) ∧ Below wa.heap.size wa wr) (fun _ s10 _ => q - (intOf s10).toNat)
      case atStart => exact ⟨0, none, 0, Nat.zero_le _, rfl, by go_num, World.ownsRow_nil _ _ _ _, Below.refl _ _⟩
      case round =>
        obtain ⟨m, A, c, hm, rfl, rfl, hown, hbel⟩ := hrel
        have HO := Lib.hid hown
        have HB := Lib.hid hbel
        have HDr := Lib.hid (HD.out.step hbel)
        have hc0 := HDr.out.c0
        obtain ⟨bo, oo, rfl, hoc⟩ := ord_cell HP.out hlt
        have hocr : wr.cell? ⟨bo, oo + i, none⟩ = some (.int .i64 (q : Int)) := by rw [← HQ.out]; exact (KC.of_below HDr.out.below).cell hoc
        clear hown hbel hoc
        by_cases hmq : m < q
        · have hm0 : (0 : Int) ≤ (m : Int) := Int.natCast_nonneg _
          have hmq' : (m : Int) < (q : Int) := by omega
          have hsnoc : List.replicate (m + 1) ((i : Int) + 1) = List.replicate m ((i : Int) + 1) ++ [(i : Int) + 1] := List.replicate_succ'
          have hzl : (List.replicate m ((i : Int) + 1)).length ≤ 1000 := by rw [List.length_replicate]; omega
          have HSN := Lib.hid hsnoc
          clear hsnoc
          generalize List.replicate m ((i : Int) + 1) = Z at *
          have HOA := Lib.hid (owns_below (w' := wr.alloc (.cells #[.int .i64 ((i : Int) + 1)] 3)) HO.out ((Below.refl _ wr).alloc (Nat.le_refl _) _))
          have HN := Lib.hid (cell_one_new wr (.int .i64 ((i : Int) + 1)) 3)
          have hsz : wa.heap.size ≤ (wr.alloc (.cells #[.int .i64 ((i : Int) + 1)] 3)).heap.size := by have := HB.out.size; simp; omega
          have HSZ := Lib.hid hsz
          clear hsz
          go_wp2_with (at_builtin
                       refine wpList_append_own_at _ rfl (.tmp 48) (.tmp 51) 50 (by rfl) wa.heap.size 3 i3 (.int .i64 0) 1 8 Try.underlying50 hi3 hz3 hs3 hb3 rfl (by omega) _ _ _ rfl HOA.out _ 1 1 [.int .i64 ((i : Int) + 1)] rfl rfl HN.out (fun u hu => by simp at hu; rw [hu]; rfl) ?_ ?_ HSZ.out ?_
                       rotate_left 2
                       intro v' w3 hown3 hgrow hnil hat)
          · obtain ⟨A2', c2', rfl⟩ := owns_form hown3
            have hl3 : (List.replicate (m + 1) ((i : Int) + 1)).length = Z.length + 1 := by rw [HSN.out]; simp
            have hB3 : Below wa.heap.size wa w3 := (HB.out.alloc HB.out.size _).grown hgrow HSZ.out fun k hk => (owns_block HOA.out k hk).1
            refine ⟨⟨m + 1, A2', c2', by omega, by rw [hl3], by go_num, ?_, hB3⟩, by simp [intOf]; omega⟩
            rw [hl3, HSN.out, ints_app]
            exact hown3
          · unfold maxLen; omega
          · omega
        · obtain rfl : m = q := by omega
          obtain ⟨b1, o1, Ar, cr, rfl, hcr, hIr⟩ := pow_cell' HP.out (i := i) (by rw [HV.out.npow]; exact hlt)
          have hyl : (P.pow i).length = P.n := (norm_NV (HV.out.pow i hlt)).1
          have hcr' := (KC.of_below HDr.out.below).cell hcr
          have hIr' := hIr.below HDr.out.below
          have hbk := back_any wr _ (P.pow i) hIr' (by rw [hyl]; exact hn12) (by rw [hyl]; exact pow_le HV.out hlt)
          rw [hyl] at hbk hcr'
          have hc1 := HDr.out.c1
          have HBK := Lib.hid hbk
          have HZL := Lib.hid (back_len (pow_le HV.out hlt) hn12)
          have hrl : (List.replicate m ((i : Int) + 1)).length ≤ 1000 := by rw [List.length_replicate]; exact hq1
          have HRL := Lib.hid hrl
          clear hcr hIr hIr' hbk hyl hrl
          generalize hX : List.replicate m ((i : Int) + 1) = X at *
          have HX := Lib.hid hX
          clear hX
          have ht0 := tot_nonneg (relsI P i)
          have ht1 : tot (relsI P i) ≤ 156000 := by have := HFW.out.2; omega
          generalize hT : tot (relsI P i) = T at *
          have HT := Lib.hid hT
          clear hT
          go_wp2_with (first
            | (go_at_call 67
               (refine HBK.out.mono ?_)
               rintro e w3 ⟨A3, c3, rfl, hown3, hb3⟩
               have hO3 := owns_below HO.out hb3
               obtain ⟨A4, c4, w4, hr4, hown4, hgr4⟩ := run_append_two w3 50 _ _ _ _ _ _ _ _ hO3 hown3 (by have := HRL.out; omega) (by have := HZL.out; omega) (Nat.le_trans HB.out.size hb3.size)
               have hZl : (X ++ back (P.pow i) P.n).length ≤ 13000 := by rw [List.length_append]; have := HRL.out; have := HZL.out; omega
               have hB4 : Below wa.heap.size wa w4 := (HB.out.trans (hb3.mono HB.out.size)).grown hgr4 (Nat.le_trans HB.out.size hb3.size) fun k hk => (owns_block hO3 k hk).1
               have hS4 := HS.out.below hOl hB4
               have hZf : Fits (X ++ back (P.pow i) P.n) := fun x hx => by
                 rcases List.mem_append.1 hx with h | h
                 · rw [← HX.out] at h; rw [(List.mem_replicate.1 h).2]; omega
                 · have := backTo_fits (P.pow i) P.n hn12 P.n (Nat.le_refl _) x h; omega
               generalize hZ : X ++ back (P.pow i) P.n = Z at *
               obtain ⟨A5, c5, vals, hcO, HRW5, HS5, HO5, HW5, HV5, HZ5, HN5⟩ := row_facts hS4 hOl hown4
               have HZ := Lib.hid hZ
               have HR4 := Lib.hid hr4
               have HZF := Lib.hid hZf
               have hz0 : (0 : Int) ≤ (Z.length : Int) := Int.natCast_nonneg _
               have hz1 : (Z.length : Int) ≤ 13000 := by omega
               clear hZ hr4 hZf hown3 hb3 hO3 hown4 hgr4 hB4 hS4)
            | ((with_reducible refine wpList_sel 60 ?_); refine wpList_val rfl (r_app (.tmp 53) (.tmp 59) 50 rfl rfl rfl HR4.out) ?_)
            | (at_builtin
               refine wpList_append_own_at _ rfl (.tmp 66) (.tmp 68) 44 (by rfl) W.heap.size 50 i50 (.slice none 0 0) 1 24 Try.underlying44 hi50 hz50 hs50 hb50 rfl (by omega) _ _ _ rfl HRW5.out _ 1 1 [.slice A4 Z.length c4] rfl rfl HN5.out (fun u hu => by simp at hu; rw [hu]; rfl) ?_ ?_ HZ5.out ?_
               rotate_left 2
               intro v' w6 hown6 hgrow hnil hat
               obtain ⟨A6, c6, rfl⟩ := owns_form hown6
               have hO6 : w6.heap[O]? = some (.cells #[.int .i64 P.n, .slice A5 (relsI P i).length c5] 46 (0, 0)) := (hgrow.block O (Array.getElem?_eq_some_iff.1 HO5.out).1 fun e => by have := (owns_block HRW5.out O e.symm).1; omega).trans HO5.out
               have hc6 : w6.cell? ⟨O, 1, none⟩ = some (.slice A5 (relsI P i).length c5) := by rw [cell_of_row _ _ _ _ _ _ hO6]; rfl
               have hf6 : w6.frozen? ⟨O, 1, none⟩ = false := by simp [World.frozen?, hO6]
               have HOWN := Lib.hid hown6
               have HG := Lib.hid hgrow
               clear hown6 hgrow hnil hat hO6))
          · have hnx := HS5.out.next hOl HRW5.out HV5.out ⟨_, HO5.out⟩ HW5.out HZF.out HG.out HOWN.out
            have e1 : relsI P (i + 1) = relsI P i ++ [Z] := by
              show relsI P i ++ [List.replicate (P.ord i).toNat ((i : Int) + 1) ++ back (P.pow i) P.n] = _
              rw [HQ.out, Int.toNat_natCast, HX.out, HZ.out]
            refine ⟨⟨i + 1, by omega, ?_, by go_num, ?_⟩, by simp [intOf]; omega⟩
            · rw [e1, tot_snoc, HT.out]
            · rw [e1]; simpa [World.setCell] using hnx
          · have := HFW.out.1; unfold maxLen; omega
          · have := HFW.out.1; omega
    · obtain rfl : i = P.n := by omega
      have hA1 : relsI P P.n = relsI P P.n ++ relsC P 0 := by rw [show relsC P 0 = [] from rfl, List.append_nil]
      have hS1 := HS.out
      rw [hA1] at hS1
      have HS1 := Lib.hid hS1
      have hT1 : tot (relsI P P.n) = tot (relsI P P.n ++ relsC P 0) := by rw [← hA1]
      have HT1 := Lib.hid hT1
      clear hA1 hS1 hT1 HS HI0
      have dN : decide (P.n < P.orders.length) = false := by rw [HN.out]; simp
      go_wp2_with fail
      clear dN
      go_loopw [7, 11] (fun s7 s11 wr => ∃ j : Nat, j ≤ P.n ∧ s7 = .int .i64 (tot (relsI P P.n ++ relsC P j)) ∧ s11 = .int .i64 j ∧ RelSt W.heap.size wr.heap.size W wr O O P.n (relsI P P.n ++ relsC P j)) (fun _ s11 _ => P.n - (intOf s11).toNat)
      case atStart => exact ⟨0, Nat.zero_le _, by rw [← HT1.out], by go_num, HS1.out⟩
      case round =>
        obtain ⟨j, hj, rfl, rfl, hS⟩ := hrel
        have HS := Lib.hid hS
        have HD := Lib.hid (HKW.out hS)
        have hk0 := HD.out.c0
        clear hS
        rename World => wb
        by_cases hlt : j < P.n
        · have hj0 : (0 : Int) ≤ (j : Int) := Int.natCast_nonneg _
          have hj12 : (j : Int) < 12 := by omega
          have hjo : (j : Int) < (P.orders.length : Int) := by rw [HN.out]; omega
          have hA1 : relsI P P.n ++ relsC P j = relsI P P.n ++ (relsC P j ++ relsJ P j 0) := by rw [show relsJ P j 0 = [] from rfl, List.append_nil]
          have hS1 := HS.out
          rw [hA1] at hS1
          have HS2 := Lib.hid hS1
          have hT1 : tot (relsI P P.n ++ relsC P j) = tot (relsI P P.n ++ (relsC P j ++ relsJ P j 0)) := by rw [← hA1]
          have HT2 := Lib.hid hT1
          clear hA1 hS1 hT1 HS HS1
          go_wp2_with fail
          go_loopw [7, 12] (fun s7 s12 wr => ∃ i : Nat, i ≤ j ∧ s7 = .int .i64 (tot (relsI P P.n ++ (relsC P j ++ relsJ P j i))) ∧ s12 = .int .i64 i ∧ RelSt W.heap.size wr.heap.size W wr O O P.n (relsI P P.n ++ (relsC P j ++ relsJ P j i))) (fun _ s12 _ => j - (intOf s12).toNat)
          case atStart => exact ⟨0, Nat.zero_le _, by rw [← HT2.out], by go_num, HS2.out⟩
          case round =>
            obtain ⟨i, hi, rfl, rfl, hS⟩ := hrel
            have HS := Lib.hid hS
            have HDr := Lib.hid (HKW.out hS)
            clear hS HS2 HT2 hk0
            by_cases hij : i < j
            · have hi0 : (0 : Int) ≤ (i : Int) := Int.natCast_nonneg _
              have hi12 : (i : Int) < (j : Int) := by omega
              have hneg : -((i : Int) + 1) = -(i : Int) - 1 := by omega
              have hjc : (j : Int) < (P.conj.length : Int) := by rw [HV.out.ncj]; omega
              obtain ⟨b2, o2, Ar, cr, rfl, hcr, -, -, htab⟩ := conj_row' HP.out (j := j) (by rw [HV.out.ncj]; exact hlt)
              have hjl := HV.out.cjl j hlt
              obtain ⟨b3, o3, As, cs, rfl, hcs, hIs⟩ := row_cell' htab (i := i) (by rw [hjl]; exact hij)
              have hyl : (P.cj j i).length = P.n := (norm_NV (HV.out.cj j hlt i hij)).1
              have hba : Below wr.heap.size wr (wr.alloc (.cells #[.int .i64 (-(i : Int) - 1), .int .i64 ((j : Int) + 1), .int .i64 ((i : Int) + 1)] 3)) := (Below.refl _ wr).alloc (Nat.le_refl _) _
              have hDa := HDr.out.step hba
              have hcr' := (KC.of_below hDa.below).cell hcr
              have hcs' := (KC.of_below hDa.below).cell hcs
              have hIs' := hIs.below hDa.below
              have hbk := back_any _ _ (P.cj j i) hIs' (by rw [hyl]; exact hn12) (by rw [hyl]; exact cj_le HV.out hlt hij)
              have hcs2 : (wr.alloc (.cells #[.int .i64 (-(i : Int) - 1), .int .i64 ((j : Int) + 1), .int .i64 ((i : Int) + 1)] 3)).cell? ⟨b3, o3 + i, none⟩ = some (.slice As P.n cs) := by rw [← hyl]; exact hcs'
              rw [show ((P.conj.getD j []).getD i []).length = P.n from hyl, hyl] at hbk
              rw [hjl] at hcr'
              have hc2 := hDa.c2
              have HBK := Lib.hid hbk
              have HBA := Lib.hid hba
              have HZL := Lib.hid (back_len (cj_le HV.out hlt hij) hn12)
              have HFW := Lib.hid ((few_I HV.out P.n (Nat.le_refl _)).app ((few_C HV.out j hj).app (few_J HV.out hlt i hi)))
              have HOW : Hid ((wr.alloc (.cells #[.int .i64 (-(i : Int) - 1), .int .i64 ((j : Int) + 1), .int .i64 ((i : Int) + 1)] 3)).ownsRow wr.heap.size 3 1 (.slice (some ⟨wr.heap.size, 0, none⟩) 3 3) [-(i : Int) - 1, (j : Int) + 1, (i : Int) + 1].length (ints [-(i : Int) - 1, (j : Int) + 1, (i : Int) + 1])) := Lib.hid (owns_three (heap_alloc_new wr _) (Nat.le_refl _))
              have ht0 := tot_nonneg (relsI P P.n ++ (relsC P j ++ relsJ P j i))
              have ht1 : tot (relsI P P.n ++ (relsC P j ++ relsJ P j i)) ≤ 3000000 := by have := HFW.out.2; omega
              have hRS : relsI P P.n ++ (relsC P j ++ relsJ P j (i + 1)) = relsI P P.n ++ (relsC P j ++ relsJ P j i) ++ [[-(i : Int) - 1, (j : Int) + 1, (i : Int) + 1] ++ back (P.cj j i) P.n] := by
                rw [List.append_assoc, List.append_assoc]; rfl
              have HRS := Lib.hid hRS
              have hlen : (relsI P P.n ++ (relsC P j ++ relsJ P j i)).length ≤ 1000 := by have := HFW.out.1; omega
              clear hcr hcs hcs' hIs hIs' hbk hyl hba hDa hjl htab hRS
              generalize relsI P P.n ++ (relsC P j ++ relsJ P j i) = RS at *
              generalize hT : tot RS = T at *
              have HT := Lib.hid hT
              clear hT
              go_wp2_with (first
                | (go_at_call 67
                   (refine HBK.out.mono ?_)
                   rintro e w3 ⟨A3, c3, rfl, hown3, hb3⟩
                   have hO3 := owns_below HOW.out hb3
                   obtain ⟨A4, c4, w4, hr4, hown4, hgr4⟩ := run_append_two w3 50 _ _ _ _ _ _ _ _ hO3 hown3 (by simp) (by have := HZL.out; omega) (Nat.le_trans HBA.out.size hb3.size)
                   have hZl : ([-(i : Int) - 1, (j : Int) + 1, (i : Int) + 1] ++ back (P.cj j i) P.n).length ≤ 13000 := by rw [List.length_append]; have := HZL.out; simp; omega
                   have hB4 : Below wr.heap.size wr w4 := (HBA.out.trans (hb3.mono HBA.out.size)).grown hgr4 (Nat.le_trans HBA.out.size hb3.size) fun k hk => (owns_block hO3 k hk).1
                   have hS4 := HS.out.below hOl hB4
                   have hZf : Fits ([-(i : Int) - 1, (j : Int) + 1, (i : Int) + 1] ++ back (P.cj j i) P.n) := fun x hx => by
                     rcases List.mem_append.1 hx with h | h
                     · simp at h; omega
                     · have := backTo_fits (P.cj j i) P.n hn12 P.n (Nat.le_refl _) x h; omega
                   generalize hZ : [-(i : Int) - 1, (j : Int) + 1, (i : Int) + 1] ++ back (P.cj j i) P.n = Z at *
                   obtain ⟨A5, c5, vals, hcO, HRW5, HS5, HO5, HW5, HV5, HZ5, HN5⟩ := row_facts hS4 hOl hown4
                   have HZ := Lib.hid hZ
                   have HR4 : Hid ((Builtin.append_ #[50, 50] 50 #[.slice (some ⟨wr.heap.size, 0, none⟩) 3 3, .slice A3 (back (P.cj j i) P.n).length c3]).run Try.prog w3 = .ok (.slice A4 Z.length c4) w4) := Lib.hid hr4
                   have HZF := Lib.hid hZf
                   have hz0 : (0 : Int) ≤ (Z.length : Int) := Int.natCast_nonneg _
                   have hz1 : (Z.length : Int) ≤ 13000 := by omega
                   clear hZ hr4 hZf hown3 hb3 hO3 hown4 hgr4 hB4 hS4)
                | ((with_reducible refine wpList_sel 100 ?_); refine wpList_val rfl (r_app (.tmp 90) (.tmp 99) 50 rfl rfl rfl HR4.out) ?_)
                | (at_builtin
                   refine wpList_append_own_at _ rfl (.tmp 106) (.tmp 108) 44 (by rfl) W.heap.size 50 i50 (.slice none 0 0) 1 24 Try.underlying44 hi50 hz50 hs50 hb50 rfl (by omega) _ _ _ rfl HRW5.out _ 1 1 [.slice A4 Z.length c4] rfl rfl HN5.out (fun u hu => by simp at hu; rw [hu]; rfl) ?_ ?_ HZ5.out ?_
                   rotate_left 2
                   intro v' w6 hown6 hgrow hnil hat
                   obtain ⟨A6, c6, rfl⟩ := owns_form hown6
                   have hO6 : w6.heap[O]? = some (.cells #[.int .i64 P.n, .slice A5 RS.length c5] 46 (0, 0)) := (hgrow.block O (Array.getElem?_eq_some_iff.1 HO5.out).1 fun e => by have := (owns_block HRW5.out O e.symm).1; omega).trans HO5.out
                   have hc6 : w6.cell? ⟨O, 1, none⟩ = some (.slice A5 RS.length c5) := by rw [cell_of_row _ _ _ _ _ _ hO6]; rfl
                   have hf6 : w6.frozen? ⟨O, 1, none⟩ = false := by simp [World.frozen?, hO6]
                   have HOWN := Lib.hid hown6
                   have HG := Lib.hid hgrow
                   clear hown6 hgrow hnil hat hO6))
              · have hnx := HS5.out.next hOl HRW5.out HV5.out ⟨_, HO5.out⟩ HW5.out HZF.out HG.out HOWN.out
                have hnx2 : RelSt W.heap.size (w6.setCell ⟨O, 1, none⟩ (.slice A6 (RS.length + 1) c6)).heap.size W (w6.setCell ⟨O, 1, none⟩ (.slice A6 (RS.length + 1) c6)) O O P.n (RS ++ [Z]) := by simpa [World.setCell] using hnx
                have hTn : T + (Z.length : Int) = tot (RS ++ [Z]) := by rw [tot_snoc, HT.out]
                have HNX := Lib.hid hnx2
                have HTN := Lib.hid hTn
                clear hnx hnx2 hTn
                go_roundw
                case rel => exact ⟨i + 1, by omega, by rw [HRS.out, ← HTN.out], by go_num, by rw [HRS.out]; exact HNX.out⟩
                case measure => simp [intOf]; omega
              · unfold maxLen; omega
              · omega
            · obtain rfl : i = j := by omega
              go_wp2_with fail
              go_roundw
              case rel => exact ⟨i + 1, by omega, rfl, by go_num, HS.out⟩
              case measure => simp [intOf]; omega
        · obtain rfl : j = P.n := by omega
          have HFW := Lib.hid ((few_I HV.out P.n (Nat.le_refl _)).app (few_C HV.out P.n (Nat.le_refl _)))
          have ht1 : tot (rels P) ≤ 2028000 := by have := HFW.out.2; unfold rels; omega
          have ht0 := tot_nonneg (rels P)
          have hrp : relsI P P.n ++ relsC P P.n = rels P := rfl
          have HRP := Lib.hid hrp
          have HG4 : Hid (wb.heap[w.heap.size + 1]? = some (.cells #[.int .i64 0, .slice none 0 0] 46 (0, 0))) := Lib.hid ((HS.out.old _ (by omega) (by omega) (by omega)).trans HGW.out)
          have HBE : Hid (Below w.heap.size w wb) := Lib.hid HD.out.below
          have hS := HS.out
          rw [hrp] at hS ⊢
          have HS := Lib.hid hS
          clear hrp hS
          by_cases ht : tot (rels P) > 4000
          · have HDD := Lib.hid (show relsD P = (4, 0, []) by unfold relsD; rw [if_neg (by simp [HE.out]), if_neg (by omega), if_pos ht])
            have d2 : decide (tot (rels P) > 4000) = true := by simpa using ht
            go_wp2_with (first
              | ((with_reducible refine wpList_sel 113 ?_); refine wpList_val rfl (r_build46 rfl) ?_; refine wpList_skip rfl (r_store46 (.tmp 2) (.tmp 113) rfl (w.heap.size + 1) _ #[.int .i64 0, .slice none 0 0] rfl rfl HG4.out rfl rfl one46) ?_))
            refine bodyPost_ret (results_46_tmp (p := 2) (q := 3) rfl _ _ (w.heap.size + 1) #[.int .i64 0, .slice none 0 0] (.int .i64 4) rfl rfl (setRow_heap _ _ _ _ _ _ HG4.out) rfl) rfl ⟨.slice none 0 0, ?_, ?_, ?_⟩
            · rw [HDD.out]
            · rw [HDD.out]; exact tab_nil
            · exact HBE.out.trans ⟨rfl, rfl, rfl, by rw [World.setRow]; simp, fun k hk => setRow_other _ _ k _ (by omega)⟩
          · have HDD := Lib.hid (show relsD P = (0, (P.n : Int), rels P) by unfold relsD; rw [if_neg (by simp [HE.out]), if_neg (by omega), if_neg ht])
            have d2 : decide (tot (rels P) > 4000) = false := by simpa using ht
            have htab := fun (cs : Array Value) => HS.out.tab (w' := wb.setRow (w.heap.size + 1) cs) (fun k hk _ => setRow_other _ _ k _ (by omega))
            obtain ⟨A, c, hOc, -⟩ := htab #[]
            have htb : Tab (wb.setRow (w.heap.size + 1) #[.int .i64 P.n, .slice A (rels P).length c]) (.slice A (rels P).length c) (rels P) := by
              obtain ⟨A', c', hOc', ht'⟩ := htab #[.int .i64 P.n, .slice A (rels P).length c]
              rw [hOc] at hOc'
              have e := Option.some.inj hOc'
              injection e with e1
              have e2 : (Value.slice A (rels P).length c) = .slice A' (rels P).length c' := by
                have := congrArg (fun a : Array Value => a[1]?) e1
                simpa using this
              have ht2 : Tab (wb.setRow (w.heap.size + 1) #[.int .i64 P.n, .slice A (rels P).length c]) (.slice A' (rels P).length c') (rels P) := ht'
              rw [← e2] at ht2; exact ht2
            have HOC := Lib.hid hOc
            have HTB := Lib.hid htb
            clear htab hOc htb
            go_wp2_with (first
              | ((with_reducible refine wpList_sel 114 ?_); refine wpList_val rfl (r_load46 (.tmp 6) O _ _ rfl rfl HOC.out) ?_; refine wpList_skip rfl (r_store46 (.tmp 2) (.tmp 114) rfl (w.heap.size + 1) _ #[.int .i64 P.n, .slice A (rels P).length c] rfl rfl HG4.out rfl rfl (by simp [Value.oneCell'])) ?_))
            refine bodyPost_ret (results_46_tmp (p := 2) (q := 3) rfl _ _ (w.heap.size + 1) #[.int .i64 P.n, .slice A (rels P).length c] (.int .i64 0) rfl rfl (setRow_heap _ _ _ _ _ _ HG4.out) rfl) rfl ⟨.slice A (rels P).length c, ?_, ?_, ?_⟩
            · rw [HDD.out]
            · rw [HDD.out]; exact HTB.out
            · exact HBE.out.trans ⟨rfl, rfl, rfl, by rw [World.setRow]; simp, fun k hk => setRow_other _ _ k _ (by omega)⟩
end Go.Proofs
namespace Go.Proofs
open Go.RowKit Go.Proofs.Pc

/-- blocks of cells below hi, of the types T, are as they were -/
def AgX (hi : Nat) (T : List Nat) (w w' : World) : Prop := ∀ (k : Nat) (C : Array Value) (t : TypeId) (fr : Nat × Nat), k < hi → t ∈ T → w.heap[k]? = some (Obj.cells C t fr) → w'.heap[k]? = some (Obj.cells C t fr)
theorem AgX.trans {hi hi' : Nat} {T : List Nat} {w w' w'' : World} (h : AgX hi T w w') (k : AgX hi' T w' w'') (hh : hi ≤ hi') : AgX hi T w w'' := fun b C t fr h1 h2 h3 => k b C t fr (by omega) h2 (h b C t fr h1 h2 h3)
theorem AgX.of_below {hi : Nat} {T : List Nat} {w w' : World} (h : Below hi w w') : AgX hi T w w' := fun k _ _ _ hk _ h3 => (h.block k hk).trans h3
theorem AgX.of_grown {hi : Nat} {T : List Nat} {w w' : World} {row : Option Nat} (h : w.grownBy w' row) (hr : ∀ r, row = some r → ∃ C t fr, w.heap[r]? = some (Obj.cells C t fr) ∧ t ∉ T) : AgX hi T w w' := fun k C t fr _ ht hk => by
  refine (h.block k (Array.getElem?_eq_some_iff.1 hk).1 fun e => ?_).trans hk
  obtain ⟨C', t', fr', h1, h2⟩ := hr k e.symm
  rw [hk] at h1
  cases h1
  exact h2 ht
theorem AgX.of_set {hi : Nat} {T : List Nat} {w : World} {b j : Nat} {v : Value} {C : Array Value} {t : TypeId} {fr : Nat × Nat} (h : w.heap[b]? = some (Obj.cells C t fr)) (ht : t ∉ T) : AgX hi T w (w.setCell ⟨b, j, none⟩ v) := fun k C' t' fr' _ ht' hk => by
  rw [Below.heap_setCell]
  · exact hk
  · intro e
    have : k = b := e
    subst this
    rw [hk] at h
    cases h
    exact ht ht'
section
variable {α : Type} {R : World → Value → α → Prop} {d : α} {T : List Nat} {hi hi' : Nat} {w w' : World} {u : Value} {x : α}
/-- u reads as x by blocks below hi of the types T -/
def Yd (T : List Nat) (R : World → Value → α → Prop) (hi : Nat) (w : World) (u : Value) (x : α) : Prop := ∀ w' : World, AgX hi T w w' → R w' u x
theorem Yd.at_ (h : Yd T R hi w u x) : R w u x := h w fun _ _ _ _ _ _ h => h
theorem Yd.keep (h : Yd T R hi w u x) (hh : hi ≤ hi') (hk : AgX hi T w w') : Yd T R hi' w' u x := fun w'' hw => h w'' (hk.trans hw hh)
/-- sv owns a row, of elements of the type e, that read as xs -/
def RowOf (base hi e : Nat) (T : List Nat) (R : World → Value → α → Prop) (d : α) (w : World) (sv : Value) (xs : List α) : Prop :=
  ∃ vals, w.ownsRow base e 1 sv xs.length vals ∧ ∀ j, j < xs.length → ∃ u, vals[j]? = some u ∧ Yd T R hi w u (xs.getD j d)
theorem RowOf.nil (base hi e : Nat) (T : List Nat) (R : World → Value → α → Prop) (d : α) (w : World) : RowOf base hi e T R d w (.slice none 0 0) [] :=
  ⟨[], World.ownsRow_nil _ _ _ _, fun _ hj => absurd hj (Nat.not_lt_zero _)⟩
theorem RowOf.form {base e : Nat} {sv : Value} {xs : List α} (h : RowOf base hi e T R d w sv xs) : ∃ A c, sv = .slice A xs.length c := by
  obtain ⟨vals, h1, -⟩ := h
  exact owns_form h1
theorem RowOf.keep {base e : Nat} {sv : Value} {xs : List α} (h : RowOf base hi e T R d w sv xs) (hh : hi ≤ hi') (hk : AgX hi T w w') (hr : ∀ r, sv.ownBlock = some r → w'.heap[r]? = w.heap[r]?) : RowOf base hi' e T R d w' sv xs := by
  obtain ⟨vals, h1, h2⟩ := h
  refine ⟨vals, owns_keep h1 hr, fun j hj => ?_⟩
  obtain ⟨u, h3, h4⟩ := h2 j hj
  exact ⟨u, h3, h4.keep hh hk⟩
theorem RowOf.below {base e : Nat} {sv : Value} {xs : List α} (h : RowOf base w.heap.size e T R d w sv xs) (hb : Below w.heap.size w w') : RowOf base w'.heap.size e T R d w' sv xs := by
  refine h.keep hb.size (AgX.of_below hb) fun r hr => ?_
  obtain ⟨vals, h1, -⟩ := h
  obtain ⟨-, C, hC⟩ := owns_block h1 r hr
  exact hb.block r (Array.getElem?_eq_some_iff.1 hC).1
theorem RowOf.snoc {base e : Nat} {A A' : Option Addr} {c c' : Nat} {vals : List Value} {xs : List α} {x : α} (he : e ∉ T) (hrow : w.ownsRow base e 1 (.slice A xs.length c) xs.length vals) (hel : ∀ j, j < xs.length → ∃ u, vals[j]? = some u ∧ Yd T R w.heap.size w u (xs.getD j d))
    (hu : Yd T R w.heap.size w u x) (hg : w.grownBy w' (Value.slice A xs.length c).ownBlock) (hown : w'.ownsRow base e 1 (.slice A' (xs.length + 1) c') (xs.length + 1) (vals ++ [u])) : RowOf base w'.heap.size e T R d w' (.slice A' (xs.length + 1) c') (xs ++ [x]) := by
  have hag : AgX w.heap.size T w w' := AgX.of_grown hg fun r hr => by
    obtain ⟨-, C, hC⟩ := owns_block hrow r hr
    exact ⟨C, e, _, hC, he⟩
  have hvl : vals.length = xs.length := by simpa using hrow.1
  have hlen : (xs ++ [x]).length = xs.length + 1 := by simp
  refine ⟨vals ++ [u], by rw [hlen]; exact hown, fun j hj => ?_⟩
  rw [hlen] at hj
  rcases Nat.lt_or_ge j xs.length with hjl | hjl
  · obtain ⟨u', h3, h4⟩ := hel j hjl
    refine ⟨u', by rw [List.getElem?_append_left (by omega)]; exact h3, ?_⟩
    have e1 : (xs ++ [x]).getD j d = xs.getD j d := by simp [List.getD_eq_getElem?_getD, List.getElem?_append_left hjl]
    rw [e1]
    exact h4.keep hg.size hag
  · obtain rfl : j = xs.length := by omega
    refine ⟨u, by rw [List.getElem?_append_right (by omega), hvl, Nat.sub_self]; rfl, ?_⟩
    have e1 : (xs ++ [x]).getD xs.length d = x := by simp [List.getD_eq_getElem?_getD]
    rw [e1]
    exact hu.keep hg.size hag
theorem RowOf.close {base e : Nat} {sv : Value} {xs : List α} (h : RowOf base w.heap.size e T R d w sv xs) : Yd (e :: T) (LAt R d) w.heap.size w sv xs := by
  obtain ⟨vals, h1, h2⟩ := h
  intro w' hw
  refine ⟨vals, sl_of_owns (owns_keep h1 fun r hr => ?_), by simpa using h1.1, fun i hi' => ?_⟩
  · obtain ⟨-, C, hC⟩ := owns_block h1 r hr
    rw [hC]
    exact hw r C e _ (Array.getElem?_eq_some_iff.1 hC).1 (List.mem_cons_self ..) hC
  · obtain ⟨u, hu, hx⟩ := h2 i hi'
    exact ⟨u, hu, hx w' fun k C t fr h3 h4 h5 => hw k C t fr h3 (List.mem_cons_of_mem _ h4) h5⟩
end
theorem ints_of_xs {w : World} {b n cap : Nat} {x : List Int} (h : XsAt w b x) (hn : x.length = n) (hc : n ≤ cap) (hm : cap ≤ 9223372036854775807) (hf : Fits x) : Yd [3] IntsAt w.heap.size w (.slice (some ⟨b, 0, none⟩) n cap) x := fun w' hw => by
  obtain ⟨C, hC, h2, h3⟩ := h
  exact XsAt.ints ⟨C, hw b C 3 _ (Array.getElem?_eq_some_iff.1 hC).1 (List.mem_cons_self ..) hC, h2, h3⟩ hn hc hm hf
section
variable {ops : Array Oper} {o : Oper} {a : Act} {w w' : World} {K : Act → World → Prop} {Q : Exit → Act → World → Prop} {E : Prop} {v : Value}
theorem step_val (hg : o.guard = none) (hrun : (execOp a.eval o).run Try.prog w = .ok (.value v) w') (hK : K (a.put o.dst v) w') : if Region.wanted o (yielded ops a.tmps) = true then Oper.wp Try.prog o a w K Q else E := by
  have hw : Region.wanted o (yielded ops a.tmps) = true := by simp [Region.wanted, hg]
  rw [if_pos hw]
  unfold Oper.wp
  rw [hrun]
  exact hK
end
end Go.Proofs
namespace Go.Proofs
open Go.RowKit Go.Proofs.Pc

theorem build26a (A : Option Addr) (n c : Nat) (w : World) : (Instr.build 26 #[(0, .slice A n c)]).run Try.prog w = .ok (.agg #[.slice A n c, .slice none 0 0, .slice none 0 0]) w := by kernel_rfl

theorem info22p : ∃ i, Try.prog.info? 22 = some i ∧ i.zero = some (.slice none 0 0) ∧ i.size = 1 ∧ i.bytes = 24 := by
  have h := info22
  cases hq : Try.prog.info? 22 with
  | none => simp [hq] at h
  | some i => simp [hq] at h; exact ⟨i, rfl, h⟩
/-- own, between its statements: the boxes, the copied orders -/
structure OwS (w : World) (P : PcD) (v0 v1 v2 : Value) (q : Nat) (u0 s1 s2 : Value) (wr : World) : Prop where
  below : Below w.heap.size w wr
  box : wr.heap[w.heap.size]? = some (.cells #[v0, v1, v2] 26 (0, 0))
  res : wr.heap[w.heap.size + 1]? = some (.cells #[.slice none 0 0, .slice none 0 0, .slice none 0 0] 26 (0, 0))
  q : wr.heap[q]? = some (.cells #[u0, s1, s2] 26 (0, 0))
  i0 : Yd [3] IntsAt wr.heap.size wr u0 P.orders
section
variable {w wr w' : World} {P : PcD} {v0 v1 v2 u0 s1 s2 : Value} {q : Nat}
theorem OwS.step (h : OwS w P v0 v1 v2 q u0 s1 s2 wr) (hb : Below wr.heap.size wr w') : OwS w P v0 v1 v2 q u0 s1 s2 w' :=
  ⟨h.below.trans (hb.mono h.below.size), (hb.block _ (Array.getElem?_eq_some_iff.1 h.box).1).trans h.box, (hb.block _ (Array.getElem?_eq_some_iff.1 h.res).1).trans h.res, (hb.block _ (Array.getElem?_eq_some_iff.1 h.q).1).trans h.q, h.i0.keep hb.size (AgX.of_below hb)⟩
theorem OwS.grown {row : Option Nat} {e : Nat} (h : OwS w P v0 v1 v2 q u0 s1 s2 wr) (hg : wr.grownBy w' row) (hr : ∀ r, row = some r → w.heap.size ≤ r ∧ ∃ C, wr.heap[r]? = some (.cells C e (0, 0))) (he3 : e ≠ 3) (he : e ≠ 26) : OwS w P v0 v1 v2 q u0 s1 s2 w' := by
  have hne : ∀ {b : Nat} {C : Array Value}, wr.heap[b]? = some (.cells C 26 (0, 0)) → w'.heap[b]? = some (.cells C 26 (0, 0)) := fun {b C} hb => by
    refine (hg.block b (Array.getElem?_eq_some_iff.1 hb).1 fun e' => ?_).trans hb
    obtain ⟨-, C', hC'⟩ := hr b e'.symm
    rw [hb] at hC'
    injection (Option.some.inj hC') with _ h2
    exact he h2.symm
  refine ⟨h.below.grown hg h.below.size fun r hr' => (hr r hr').1, hne h.box, hne h.res, hne h.q, h.i0.keep hg.size (AgX.of_grown hg fun r hr' => ?_)⟩
  obtain ⟨-, C, hC⟩ := hr r hr'
  exact ⟨C, e, _, hC, by simpa using he3⟩
theorem OwS.set1 (h : OwS w P v0 v1 v2 q u0 s1 s2 wr) (hq : w.heap.size + 1 < q) (s : Value) : OwS w P v0 v1 v2 q u0 s s2 (wr.setCell ⟨q, 1, none⟩ s) := by
  have hk : ∀ k, k ≠ q → (wr.setCell ⟨q, 1, none⟩ s).heap[k]? = wr.heap[k]? := fun k hk => Below.heap_setCell wr ⟨q, 1, none⟩ s k hk
  have hs : (wr.setCell ⟨q, 1, none⟩ s).heap.size = wr.heap.size := by simp [World.setCell]
  refine ⟨h.below.setCell (p := ⟨q, 1, none⟩) (by show w.heap.size ≤ q; omega) _, (hk _ (by omega)).trans h.box, (hk _ (by omega)).trans h.res, by simp [World.setCell, Array.getElem?_modify, h.q], ?_⟩
  rw [hs]
  exact h.i0.keep (Nat.le_refl _) (AgX.of_set h.q (by simp))
theorem OwS.set2 (h : OwS w P v0 v1 v2 q u0 s1 s2 wr) (hq : w.heap.size + 1 < q) (s : Value) : OwS w P v0 v1 v2 q u0 s1 s (wr.setCell ⟨q, 2, none⟩ s) := by
  have hk : ∀ k, k ≠ q → (wr.setCell ⟨q, 2, none⟩ s).heap[k]? = wr.heap[k]? := fun k hk => Below.heap_setCell wr ⟨q, 2, none⟩ s k hk
  have hs : (wr.setCell ⟨q, 2, none⟩ s).heap.size = wr.heap.size := by simp [World.setCell]
  refine ⟨h.below.setCell (p := ⟨q, 2, none⟩) (by show w.heap.size ≤ q; omega) _, (hk _ (by omega)).trans h.box, (hk _ (by omega)).trans h.res, by simp [World.setCell, Array.getElem?_modify, h.q], ?_⟩
  rw [hs]
  exact h.i0.keep (Nat.le_refl _) (AgX.of_set h.q (by simp))
end

/-- a copy by append into the empty block b -/
theorem copy_x {w : World} {b : Nat} {u : Value} {x : List Int} (hb : w.heap[b]? = some (.cells #[] 3 (0, 0))) (h : IntsAt w u x) (hl : x.length ≤ 1000) :
    ∃ (b' cap : Nat) (w' : World), (Builtin.append_ #[22, 22] 22 #[.slice (some ⟨b, 0, none⟩) 0 0, u]).run Try.prog w = .ok (.slice (some ⟨b', 0, none⟩) x.length cap) w' ∧ Below w.heap.size w w' ∧ Yd [3] IntsAt w'.heap.size w' (.slice (some ⟨b', 0, none⟩) x.length cap) x := by
  obtain ⟨b', cap, w', h1, h2, h3, h4, h5, -⟩ := run_copy hb h hl
  exact ⟨b', cap, w', h1, h2, ints_of_xs h3 rfl h4 h5 h.2⟩
section
variable {α : Type} {R : World → Value → α → Prop} {d : α} {T : List Nat} {w w' : World} {u : Value} {x : α} {xs : List α} {base e n c : Nat} {A : Option Addr}
theorem RowOf.len {sv : Value} {hi : Nat} (h : RowOf base hi e T R d w sv xs) : ∃ A c, sv = .slice A xs.length c := h.form
theorem RowOf.row (h : RowOf base w.heap.size e T R d w (.slice A n c) xs) : ∀ r, (Value.slice A n c).ownBlock = some r → base ≤ r ∧ r < w.heap.size ∧ ∃ C, w.heap[r]? = some (.cells C e (0, 0)) := fun r hr => by
  obtain ⟨vals, h1, -⟩ := h
  obtain ⟨h2, C, hC⟩ := owns_block h1 r hr
  exact ⟨h2, (Array.getElem?_eq_some_iff.1 hC).1, C, hC⟩
/-- an element is appended to the row -/
theorem app_row {t : TypeId} (hu : Try.prog.underlying t = some (.slice e)) (hi : ∃ i, Try.prog.info? e = some i ∧ i.zero = some (.slice none 0 0) ∧ i.size = 1 ∧ i.bytes = 24) (he : e ∉ T)
    (h : RowOf base w.heap.size e T R d w (.slice A n c) xs) (hn : xs.length = n) (hn2 : n ≤ 1000) {bs : Nat} (hbs : w.heap[bs]? = some (.cells #[u] e (0, 0))) (hu1 : u.oneCell' = true) (hx : Yd T R w.heap.size w u x) (hb : base ≤ w.heap.size) :
    ∃ (A' : Option Addr) (c' : Nat) (w' : World), (Builtin.append_ #[t, t] t #[.slice A n c, .slice (some ⟨bs, 0, none⟩) 1 1]).run Try.prog w = .ok (.slice A' (n + 1) c') w' ∧ RowOf base w'.heap.size e T R d w' (.slice A' (n + 1) c') (xs ++ [x]) ∧ w.grownBy w' (Value.slice A n c).ownBlock ∧ AgX w.heap.size T w w' := by
  subst hn
  have hrow := h.row
  obtain ⟨vals, h1, h2⟩ := h
  obtain ⟨i, hi1, hi2, hi3, hi4⟩ := hi
  have hnews : ∀ j v, [u][j]? = some v → w.cell? ((⟨bs, 0, none⟩ : Addr).add j) = some v := World.news_of_block hbs
  obtain ⟨v', w', hr, hown, hg, -, -⟩ := run_append_own_at (P := Try.prog) w base t t e i (.slice none 0 0) 1 24 hu hi1 hi2 hi3 hi4 rfl (by omega) _ xs.length vals h1 ⟨bs, 0, none⟩ 1 1 [u] rfl hnews (fun v hv => by simp at hv; rw [hv]; exact hu1) (by unfold maxLen; omega) (by omega) hb
  obtain ⟨A', c', rfl⟩ := owns_form hown
  exact ⟨A', c', w', hr, RowOf.snoc he h1 h2 hx hg hown, hg, AgX.of_grown hg fun r hr => by obtain ⟨-, -, C, hC⟩ := hrow r hr; exact ⟨C, e, _, hC, he⟩⟩
theorem RowOf.set {sv : Value} {b j : Nat} {v : Value} {C : Array Value} {t : TypeId} {fr : Nat × Nat} (h : RowOf base w.heap.size e T R d w sv xs) (hb : w.heap[b]? = some (.cells C t fr)) (ht : t ∉ T) (hte : t ≠ e) : RowOf base (w.setCell ⟨b, j, none⟩ v).heap.size e T R d (w.setCell ⟨b, j, none⟩ v) sv xs := by
  have hs : (w.setCell ⟨b, j, none⟩ v).heap.size = w.heap.size := by simp [World.setCell]
  rw [hs]
  refine h.keep (Nat.le_refl _) (AgX.of_set hb ht) fun r hr => Below.heap_setCell w ⟨b, j, none⟩ v r fun hh => ?_
  obtain ⟨vals, h1, -⟩ := h
  obtain ⟨-, C', hC'⟩ := owns_block h1 r hr
  rw [show r = b from hh, hb] at hC'
  injection (Option.some.inj hC') with _ h2
  exact hte h2
theorem Yd.set {hi : Nat} {b j : Nat} {v : Value} {C : Array Value} {t : TypeId} {fr : Nat × Nat} (h : Yd T R hi w u x) (hb : w.heap[b]? = some (.cells C t fr)) (ht : t ∉ T) : Yd T R hi (w.setCell ⟨b, j, none⟩ v) u x := h.keep (Nat.le_refl _) (AgX.of_set hb ht)
end
theorem mem_info23 : ∃ i, Try.prog.info? 23 = some i ∧ i.zero = some (.slice none 0 0) ∧ i.size = 1 ∧ i.bytes = 24 := info23p
theorem take_snoc_D {α : Type} (L : List α) (k : Nat) (h : k < L.length) (d : α) : L.take (k + 1) = L.take k ++ [L.getD k d] := by
  rw [List.take_add_one, List.getElem?_eq_getElem h]
  simp [List.getD_eq_getElem?_getD, List.getElem?_eq_getElem h]

/-- the drawn statement of own: what each operation yields -/
def dmO : Nat → Nat := fun i => [20, 21, 22, 23, 24, 25, 26, 27, 28, 29, 30, 31].getD i 0
def phO (n0 q : Nat) (svP sx ur : Value) (b1 o1 : Nat) (k : Nat) (L : List (List Int)) (x : List Int) (B : Nat) : Nat → Value → World → Prop
  | 0, v, _ => v = .pointer (some ⟨q, 1, none⟩)
  | 1, v, _ => v = sx
  | 2, v, w => ∃ b, v = .slice (some ⟨b, 0, none⟩) 0 0 ∧ w.heap[b]? = some (.cells #[] 3 (0, 0))
  | 3, v, _ => v = .pointer (some ⟨n0, 1, none⟩)
  | 4, v, _ => v = svP
  | 5, v, _ => v = .int .i64 k
  | 6, v, _ => v = .pointer (some ⟨b1, o1 + k, none⟩)
  | 7, v, _ => v = ur
  | 8, v, w => ∃ b c, v = .slice (some ⟨b, 0, none⟩) x.length c ∧ Yd [3] IntsAt w.heap.size w v x
  | 9, v, w => ∃ b u, v = .slice (some ⟨b, 0, none⟩) 1 1 ∧ B ≤ b ∧ w.heap[b]? = some (.cells #[u] 22 (0, 0)) ∧ u.oneCell' = true ∧ Yd [3] IntsAt w.heap.size w u x
  | 10, v, w => ∃ A c, v = .slice A (k + 1) c ∧ RowOf n0 w.heap.size 22 [3] IntsAt [] w v L
  | 11, v, _ => v = .pointer (some ⟨q, 1, none⟩)
  | _, _, _ => True
def gO (sx : Value) (i : Nat) (w w' : World) : Prop := if i = 10 then w.grownBy w' sx.ownBlock ∧ AgX w.heap.size [3] w w' else Below w.heap.size w w'
theorem phO_keep {n0 q : Nat} {svP sx ur : Value} {b1 o1 k : Nat} {L : List (List Int)} {x : List Int} {B i j : Nat} {v : Value} {w w' : World} (hB : ∀ r, sx.ownBlock = some r → r < B) (hij : i ≠ j) (h : gO sx i w w') (hp : phO n0 q svP sx ur b1 o1 k L x B j v w) : phO n0 q svP sx ur b1 o1 k L x B j v w' := by
  have hag : AgX w.heap.size [3] w w' ∧ w.heap.size ≤ w'.heap.size := by
    unfold gO at h
    by_cases e : i = 10
    · rw [if_pos e] at h; exact ⟨h.2, h.1.size⟩
    · rw [if_neg e] at h; exact ⟨AgX.of_below h, h.size⟩
  match j with
  | 0 | 1 | 3 | 4 | 5 | 6 | 7 | 11 => exact hp
  | 2 =>
    obtain ⟨b, h1, h2⟩ := hp
    exact ⟨b, h1, hag.1 b _ 3 _ (Array.getElem?_eq_some_iff.1 h2).1 (by simp) h2⟩
  | 8 =>
    obtain ⟨b, c, h1, h2⟩ := hp
    exact ⟨b, c, h1, h2.keep hag.2 hag.1⟩
  | 9 =>
    obtain ⟨b, u, h1, h2, h4, h5, h6⟩ := hp
    refine ⟨b, u, h1, h2, ?_, h5, h6.keep hag.2 hag.1⟩
    have hlt := (Array.getElem?_eq_some_iff.1 h4).1
    unfold gO at h
    by_cases e : i = 10
    · rw [if_pos e] at h
      exact (h.1.block b hlt (fun e2 => by have := hB b e2.symm; omega)).trans h4
    · rw [if_neg e] at h; exact (h.block b hlt).trans h4
  | 10 =>
    obtain ⟨A, c, h1, h2⟩ := hp
    unfold gO at h
    rw [if_neg hij] at h
    exact ⟨A, c, h1, h2.below h⟩
  | _ + 12 => trivial
section
variable {o : Oper} {a : Act} {w w' : World} {v : Value}
theorem bslice22 (w : World) : (Instr.buildSlice 22 0 #[]).run Try.prog w = .ok (.slice (some ⟨w.heap.size, 0, none⟩) 0 0) (w.alloc (.cells #[] 3)) := by kernel_rfl
theorem bslice23 (A : Option Addr) (n c : Nat) (w : World) : (Instr.buildSlice 23 1 #[(0, .slice A n c)]).run Try.prog w = .ok (.slice (some ⟨w.heap.size, 0, none⟩) 1 1) (w.alloc (.cells #[.slice A n c] 22)) := by kernel_rfl
theorem r_bs22 (ho : o.op = .buildSlice 22 0 #[]) : (execOp a.eval o).run Try.prog w = .ok (.value (.slice (some ⟨w.heap.size, 0, none⟩) 0 0)) (w.alloc (.cells #[] 3)) := by
  have hb := bslice22 w
  unfold execOp
  simp only [ho, List.map_toArray, List.map_nil, Sem.run_bind, hb, Result.andThen_ok]
  rfl
theorem r_bs23 (x : Operand) (A : Option Addr) (m c : Nat) (ho : o.op = .buildSlice 23 1 #[(0, x)]) (hx : a.eval x = .slice A m c) :
    (execOp a.eval o).run Try.prog w = .ok (.value (.slice (some ⟨w.heap.size, 0, none⟩) 1 1)) (w.alloc (.cells #[.slice A m c] 22)) := by
  have hb := bslice23 A m c w
  unfold execOp
  simp only [ho, List.map_toArray, List.map_cons, List.map_nil, hx, Sem.run_bind, hb, Result.andThen_ok]
  rfl
theorem size23 (w : World) : (sizeOf 23).run Try.prog w = .ok 1 w := by kernel_rfl
theorem r_store23 (x y : Operand) (b j : Nat) (A : Option Addr) (m c : Nat) (ho : o.op = .store 23 x y) (hx : a.eval x = .pointer (some ⟨b, j, none⟩)) (hy : a.eval y = .slice A m c) (hc : (w.cell? ⟨b, j, none⟩).isSome = true) (hf : w.frozen? ⟨b, j, none⟩ = false) :
    (execOp a.eval o).run Try.prog w = .ok .skip (w.setCell ⟨b, j, none⟩ (.slice A m c)) := by
  unfold execOp
  simp only [ho, hx, hy, Instr.storeAt, Instr.sureAddr, storeVar, Sem.run_bind, Sem.run_pure, Result.andThen_ok, size23]
  obtain ⟨u, hu⟩ := Option.isSome_iff_exists.1 hc
  simp [go_sem, hu, hf]
theorem idx23 (b off n c i : Nat) (hi : i < n) (w : World) : (Instr.indexAt 23 (.slice (some ⟨b, off, none⟩) n c) (.int .i64 (i : Int))).run Try.prog w = .ok (.pointer (some ⟨b, off + i, none⟩)) w := by
  have h1 : (0 : Int) ≤ (i : Int) ∧ (i : Int) < (n : Int) := ⟨by omega, by omega⟩
  have hs : (sizeOf 22).run Try.prog w = .ok 1 w := by kernel_rfl
  simp [Instr.indexAt, run_underlying Try.underlying23, go_sem, h1]
  intro h
  omega
end
theorem tab_cell {w : World} {A : Option Addr} {cc : Nat} {L : List (List Int)} (h : Tab w (.slice A L.length cc) L) {i : Nat} (hi : i < L.length) :
    ∃ b o A' c', A = some ⟨b, o, none⟩ ∧ w.cell? ⟨b, o + i, none⟩ = some (.slice A' (L.getD i []).length c') ∧ IntsAt w (.slice A' (L.getD i []).length c') (L.getD i []) := by
  obtain ⟨A', c', e, -, -, hr⟩ := h.open_
  cases e
  obtain ⟨b, o, rfl, hc⟩ := hr (by omega)
  obtain ⟨u, hu, hI⟩ := hc i hi
  obtain ⟨A', c', rfl, -⟩ := hI.open_
  exact ⟨b, o, A', c', rfl, hu, hI⟩
theorem AgX.of_row {hi : Nat} {T : List Nat} {w w' : World} {row : Option Nat} (h : w.grownBy w' row) (hr : ∀ r, row = some r → hi ≤ r) : AgX hi T w w' := fun k C t fr hk _ hc =>
  (h.block k (Array.getElem?_eq_some_iff.1 hc).1 fun e => by have := hr k e.symm; omega).trans hc
/-- own, in its last loops: the copied powers, the lists of conjugates so far -/
structure Ow3 (base hi : Nat) (s1 s2 : Value) (P : PcD) (k : Nat) (wx : World) : Prop where
  t1 : Yd [22, 3] Tab hi wx s1 P.powers
  r2 : RowOf base hi 23 [22, 3] Tab [] wx s2 (P.conj.take k)
theorem Ow3.below {base hi hi' k : Nat} {s1 s2 : Value} {P : PcD} {wx w' : World} (h : Ow3 base hi s1 s2 P k wx) (hh : hi ≤ hi') (hw : hi ≤ wx.heap.size) (hb : Below wx.heap.size wx w') : Ow3 base hi' s1 s2 P k w' :=
  ⟨h.t1.keep hh (AgX.of_below (hb.mono hw)), h.r2.keep hh (AgX.of_below (hb.mono hw)) fun r hr => by
    obtain ⟨vals, h1, -⟩ := h.r2
    obtain ⟨-, C, hC⟩ := owns_block h1 r hr
    exact hb.block r (Array.getElem?_eq_some_iff.1 hC).1⟩
theorem Ow3.grown {base hi k : Nat} {s1 s2 : Value} {P : PcD} {wx w' : World} {row : Option Nat} (h : Ow3 base hi s1 s2 P k wx) (hg : wx.grownBy w' row) (hr : ∀ r, row = some r → hi ≤ r ∧ ∃ C, wx.heap[r]? = some (.cells C 22 (0, 0))) : Ow3 base hi s1 s2 P k w' :=
  ⟨h.t1.keep (Nat.le_refl _) (AgX.of_row hg fun r hr' => (hr r hr').1), h.r2.keep (Nat.le_refl _) (AgX.of_row hg fun r hr' => (hr r hr').1) fun r hr' => by
    obtain ⟨vals, h1, -⟩ := h.r2
    obtain ⟨-, C, hC⟩ := owns_block h1 r hr'
    refine hg.block r (Array.getElem?_eq_some_iff.1 hC).1 fun e => ?_
    obtain ⟨-, C', hC'⟩ := hr r e.symm
    rw [hC] at hC'; cases hC'⟩
end Go.Proofs
