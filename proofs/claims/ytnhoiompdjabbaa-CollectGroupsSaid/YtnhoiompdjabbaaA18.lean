/- collect.Relations of a valid presentation; The walk of CollectChecks; Arguments opened: lists of numbers, tables, presentations. -/
import Derived.Test.YtnhoiompdjabbaaA14
import Derived.Test.YtnhoiompdjabbaaA17
import Derived.Test.YtnhoiompdjabbaaA15
import Derived.Test.YtnhoiompdjabbaaA1
import Derived.ProofKit
import Derived.Deep.Slices
import Derived.Deep.Strs
namespace Go.Proofs
open Go.RowKit Go.Proofs.Pc

set_option maxRecDepth 100000 in
set_option maxHeartbeats 1000000 in
theorem rel_zero (w : World) (v0 v1 v2 : Value) (P : PcD) (hP : PcAt w v0 v1 v2 P) (he : (checkD P).1 = 0) (hn : P.n = 0) :
    Calls Try.prog 25 #[.agg #[v0, v1, v2]] w (RelPost P w) := by
  have HD := Lib.hid (show relsD P = (2, 0, []) by unfold relsD; rw [if_neg (by simp [he]), if_pos hn])
  have hb : Below w.heap.size w ((w.alloc (.cells #[v0, v1, v2] 26)).alloc (.cells #[.int .i64 0, .slice none 0 0] 46)) := allocs_below [.cells #[v0, v1, v2] 26, .cells #[.int .i64 0, .slice none 0 0] 46] w _ (Nat.le_refl _)
  have hg := allocs_get [.cells #[v0, v1, v2] 26, .cells #[.int .i64 0, .slice none 0 0] 46] w 1 _ rfl
  have HC := Lib.hid (of_good _ v0 v1 v2 P (hP.below hb) he)
  have hsz : ((w.alloc (.cells #[v0, v1, v2] 26)).alloc (.cells #[.int .i64 0, .slice none 0 0] 46)).heap.size = w.heap.size + 2 := by simp
  have HB := Lib.hid hb
  have HG : Hid (((w.alloc (.cells #[v0, v1, v2] 26)).alloc (.cells #[.int .i64 0, .slice none 0 0] 46)).heap[w.heap.size + 1]? = some (.cells #[.int .i64 0, .slice none 0 0] 46 (0, 0))) := Lib.hid hg
  have HN := Lib.hid hn
  clear he hP hb hg hn
  go_enter Try.func25, Try.ntmps25
  go_wp2_with (first
    | (go_at_call 47
       (refine HC.out.mono ?_)
       rintro e w2 ⟨⟨br, rfl, hR, hbr⟩, hb2⟩
       have hg2 : w2.heap[w.heap.size + 1]? = some (.cells #[.int .i64 0, .slice none 0 0] 46 (0, 0)) := (hb2.block _ (by rw [hsz]; omega)).trans HG.out
       have HG2 : Hid (∀ o, (w2.alloc o).heap[w.heap.size + 1]? = some (.cells #[.int .i64 0, .slice none 0 0] 46 (0, 0))) := Lib.hid (fun o => (((Below.refl _ w2).alloc (Nat.le_refl _) o).block _ (Array.getElem?_eq_some_iff.1 hg2).1).trans hg2)
       have hnc : (w2.alloc (.cells #[.pointer (some ⟨br, 0, none⟩)] 62)).cell? ⟨br, 0, none⟩ = some (.int .i64 0) := (KC.of_below ((Below.refl _ w2).alloc (Nat.le_refl _) _)).cell (by rw [hR.n, HN.out]; rfl)
       have HB2 := Lib.hid (HB.out.trans (hb2.mono (by rw [hsz]; omega)))
       clear hg2 hb2 hR hbr)
    | ((with_reducible refine wpList_sel 26 ?_); refine wpList_val rfl (r_build46 rfl) ?_; refine wpList_skip rfl (r_store46 (.tmp 2) (.tmp 26) rfl (w.heap.size + 1) _ #[.int .i64 0, .slice none 0 0] rfl rfl (HG2.out _) rfl rfl one46) ?_))
  try simp only [Exit.inBlock, Exit.then]
  refine bodyPost_ret (results_46_tmp (p := 2) (q := 3) rfl _ _ (w.heap.size + 1) #[.int .i64 0, .slice none 0 0] (.int .i64 2) rfl rfl (setRow_heap _ _ _ _ _ _ (HG2.out _)) rfl) rfl ⟨.slice none 0 0, ?_, ?_, ?_⟩
  · rw [HD.out]
  · rw [HD.out]; exact tab_nil
  · exact (HB2.out.alloc HB2.out.size _).trans ⟨rfl, rfl, rfl, by rw [World.setRow]; simp, fun k hk => setRow_other _ _ k _ (by omega)⟩

set_option maxRecDepth 100000 in
set_option maxHeartbeats 1000000 in
theorem rel_good (w : World) (v0 v1 v2 : Value) (P : PcD) (hP : PcAt w v0 v1 v2 P) (he : (checkD P).1 = 0) (hn : 0 < P.n) :
    Calls Try.prog 25 #[.agg #[v0, v1, v2]] w (RelPost P w) := by
  have hv := valid_of_check he
  have hn12 : P.n ≤ 12 := hv.n12
  have hne : ((P.n : Int) == 0) = false := by simp; omega
  have HV := Lib.hid hv
  have hb : Below w.heap.size w ((w.alloc (.cells #[v0, v1, v2] 26)).alloc (.cells #[.int .i64 0, .slice none 0 0] 46)) := allocs_below [.cells #[v0, v1, v2] 26, .cells #[.int .i64 0, .slice none 0 0] 46] w _ (Nat.le_refl _)
  have hg := allocs_get [.cells #[v0, v1, v2] 26, .cells #[.int .i64 0, .slice none 0 0] 46] w 1 _ rfl
  have HC := Lib.hid (of_good _ v0 v1 v2 P (hP.below hb) he)
  have hsz : ((w.alloc (.cells #[v0, v1, v2] 26)).alloc (.cells #[.int .i64 0, .slice none 0 0] 46)).heap.size = w.heap.size + 2 := by simp
  have HB := Lib.hid hb
  have HG : Hid (((w.alloc (.cells #[v0, v1, v2] 26)).alloc (.cells #[.int .i64 0, .slice none 0 0] 46)).heap[w.heap.size + 1]? = some (.cells #[.int .i64 0, .slice none 0 0] 46 (0, 0))) := Lib.hid hg
  have hmf : ∀ (fn : Fn) (first cap : Array Value) (w : World), (Instr.makeFunc fn first cap).run Try.prog w = .ok (.func fn first cap) w := fun _ _ _ _ => rfl
  have HE := Lib.hid he
  clear he hP hb hg hv
  go_enter Try.func25, Try.ntmps25
  go_wp2_with (first
    | (go_at_call 47
       (refine HC.out.mono ?_)
       rintro e w2 ⟨⟨br, rfl, hR, hbr⟩, hb2⟩
       have hg2 : w2.heap[w.heap.size + 1]? = some (.cells #[.int .i64 0, .slice none 0 0] 46 (0, 0)) := (hb2.block _ (by rw [hsz]; omega)).trans HG.out
       have hw2 : w.heap.size + 1 < w2.heap.size := (Array.getElem?_eq_some_iff.1 hg2).1
       have hbr2 : br < w2.heap.size := World.block_lt_of_cell? w2 _ hR.n
       have hnc : (w2.alloc (.cells #[.pointer (some ⟨br, 0, none⟩)] 62)).cell? ⟨br, 0, none⟩ = some (.int .i64 P.n) := (KC.of_below ((Below.refl _ w2).alloc (Nat.le_refl _) _)).cell hR.n
       have hnc3 : (((w2.alloc (.cells #[.pointer (some ⟨br, 0, none⟩)] 62)).alloc (.cells #[.int .i64 P.n, .slice none 0 0] 46)).alloc (.cells #[.int .i64 0] 3)).cell? ⟨br, 0, none⟩ = some (.int .i64 P.n) := (KC.of_below ((((Below.refl _ w2).alloc (Nat.le_refl _) _).alloc (by simp) _).alloc (by simp; omega) _)).cell hR.n
       have hr3 := allocs_get [.cells #[.pointer (some ⟨br, 0, none⟩)] 62, .cells #[.int .i64 P.n, .slice none 0 0] 46, .cells #[.int .i64 0] 3] w2 0 _ rfl
       have hO3 : (((w2.alloc (.cells #[.pointer (some ⟨br, 0, none⟩)] 62)).alloc (.cells #[.int .i64 P.n, .slice none 0 0] 46)).alloc (.cells #[.int .i64 0] 3)).heap[w2.heap.size + 1]? = some (.cells #[.int .i64 P.n, .slice none 0 0] 46 (0, 0)) := allocs_get [.cells #[.pointer (some ⟨br, 0, none⟩)] 62, .cells #[.int .i64 P.n, .slice none 0 0] 46, .cells #[.int .i64 0] 3] w2 1 _ rfl
       have hL3 : (((w2.alloc (.cells #[.pointer (some ⟨br, 0, none⟩)] 62)).alloc (.cells #[.int .i64 P.n, .slice none 0 0] 46)).alloc (.cells #[.int .i64 0] 3)).heap[w2.heap.size + 1 + 1]? = some (.cells #[.int .i64 0] 3 (0, 0)) := allocs_get [.cells #[.pointer (some ⟨br, 0, none⟩)] 62, .cells #[.int .i64 P.n, .slice none 0 0] 46, .cells #[.int .i64 0] 3] w2 2 _ rfl
       have hb3 : Below w2.heap.size w2 (((w2.alloc (.cells #[.pointer (some ⟨br, 0, none⟩)] 62)).alloc (.cells #[.int .i64 P.n, .slice none 0 0] 46)).alloc (.cells #[.int .i64 0] 3)) := allocs_below [.cells #[.pointer (some ⟨br, 0, none⟩)] 62, .cells #[.int .i64 P.n, .slice none 0 0] 46, .cells #[.int .i64 0] 3] w2 _ (Nat.le_refl _)
       have hs3 : (((w2.alloc (.cells #[.pointer (some ⟨br, 0, none⟩)] 62)).alloc (.cells #[.int .i64 P.n, .slice none 0 0] 46)).alloc (.cells #[.int .i64 0] 3)).heap.size = w2.heap.size + 3 := by simp
       have hrc3 : (((w2.alloc (.cells #[.pointer (some ⟨br, 0, none⟩)] 62)).alloc (.cells #[.int .i64 P.n, .slice none 0 0] 46)).alloc (.cells #[.int .i64 0] 3)).cell? ⟨w2.heap.size, 0, none⟩ = some (.pointer (some ⟨br, 0, none⟩)) := (cell_of_row _ _ 0 _ _ _ hr3).trans rfl
       have HR := Lib.hid hR
       have HR3 := Lib.hid hr3
       have HO3 := Lib.hid hO3
       have HL3 := Lib.hid hL3
       have HB3 := Lib.hid hb3
       have HG2 := Lib.hid hg2
       have HB2 := Lib.hid (HB.out.trans (hb2.mono (by rw [hsz]; omega)))
       clear hg2 hb2 hR hbr hr3 hO3 hL3 hb3))
  have HPR := Lib.hid hrc3
  generalize (((w2.alloc (.cells #[.pointer (some ⟨br, 0, none⟩)] 62)).alloc (.cells #[.int .i64 P.n, .slice none 0 0] 46)).alloc (.cells #[.int .i64 0] 3)) = W at *
  have HRW : Hid (RulesAt W br P) := Lib.hid (HR.out.below HB3.out)
  have HBW : Hid (Below w.heap.size w W) := Lib.hid (HB2.out.trans (HB3.out.mono (by omega)))
  have HG3 : Hid (W.heap[w.heap.size + 1]? = some (.cells #[.int .i64 0, .slice none 0 0] 46 (0, 0))) := Lib.hid ((HB3.out.block _ (by omega)).trans HG2.out)
  clear HR HB3 HB2 HG2 HR3 HC HB HG hsz hnc
  generalize hLe : w2.heap.size + 1 + 1 = L at *
  generalize hOe : w2.heap.size + 1 = O at *
  generalize w2.heap.size = pr at *
  have hprO : pr < O := by omega
  have hOL : O < L := by omega
  have hLl : L < W.heap.size := by omega
  have hWL : W.heap.size ≤ L + 1 := by omega
  have hbrl : br < pr := hbr2
  have hwpr : w.heap.size + 1 < pr := hw2
  clear hLe hOe hs3 hnc3 hrc3 hw2 hbr2
  have HI0 := Lib.hid (RelSt.start (L := L) rfl HO3.out)
  have HKW : Hid (∀ {hi : Nat} {wr : World} {rs : List (List Int)}, RelSt W.heap.size hi W wr L O P.n rs → wr.cell? ⟨pr, 0, none⟩ = some (.pointer (some ⟨br, 0, none⟩)) ∧ RulesAt wr br P) := Lib.hid (fun hS => ⟨(World.cell?_of_block (a := ⟨pr, 0, none⟩) (hS.old pr (by omega) (by omega) (by omega))).trans HPR.out, HRW.out.block (hS.old br (by omega) (by omega) (by omega))⟩)
  go_loopw [37] (fun s wr => ∃ i : Nat, i ≤ P.n ∧ s = .int .i64 i ∧ RelSt W.heap.size wr.heap.size W wr L O P.n (relsI P i) ∧ wr.heap[L]? = some (.cells #[.int .i64 (tot (relsI P i))] 3 (0, 0))) (fun s _ => P.n - (intOf s).toNat)
  case atStart => exact ⟨0, Nat.zero_le _, rfl, HI0.out, HL3.out⟩
  case round =>
    obtain ⟨i, hi, rfl, hS, hL⟩ := hrel
    have hS' := hS
    have HS := Lib.hid hS
    have HLr := Lib.hid hL
    clear hS hL
    by_cases hlt : i < P.n
    · obtain ⟨hpc, hRr⟩ := HKW.out HS.out
      have hi0 : (0 : Int) ≤ (i : Int) := Int.natCast_nonneg _
      have hi12 : (i : Int) < 12 := by omega
      have hin : (i : Int) < (P.n : Int) := by omega
      have hoi := HV.out.ord2 i hlt
      obtain ⟨q, hq⟩ : ∃ q : Nat, P.ord i = (q : Int) := ⟨(P.ord i).toNat, by omega⟩
      have hq1 : q ≤ 1000 := by omega
      have HQ := Lib.hid hq
      have hoc := hRr.ordc (i := i) (by omega)
      rw [hq] at hoc
      clear hoi hq
      have HSS : Hid (∀ w' : World, Below wr.heap.size wr w' → (w'.cell? ⟨pr, 0, none⟩ = some (.pointer (some ⟨br, 0, none⟩)) ∧ w'.cell? ⟨br, 1 + i, none⟩ = some (.int .i64 (q : Int)) ∧ w'.rangeAt br (13 + i * 12) (vec (P.pow i)))) :=
        Lib.hid (fun w' hb => ⟨(KC.of_below hb).cell hpc, (KC.of_below hb).cell hoc, (KC.of_below hb).range (hRr.pow i (by omega))⟩)
      have HW := Lib.hid ((Below.refl wr.heap.size wr).drew)
      have hwr : IntKind.i64.wrap ((i : Int) + 1) = (i : Int) + 1 := by rw [IntKind.wrap_i64]; omega
      have hREP : Calls Try.prog 66 #[.slice (some ⟨wr.heap.size, 0, none⟩) 1 1, .int .i64 (q : Int)] (wr.alloc (.cells #[.int .i64 (IntKind.i64.wrap ((i : Int) + 1))] 3)).drew _ := repeat_any (wr.alloc (.cells #[.int .i64 (IntKind.i64.wrap ((i : Int) + 1))] 3)).drew wr.heap.size 0 1 ((i : Int) + 1) q hq1 ((cell_of_row _ _ 0 _ _ _ (heap_alloc_new wr _)).trans (by rw [hwr]; rfl))
      have HREP := Lib.hid hREP
      have HBA : Hid (Below wr.heap.size wr (wr.alloc (.cells #[.int .i64 (IntKind.i64.wrap ((i : Int) + 1))] 3)).drew) := Lib.hid ((Below.refl wr.heap.size wr).alloc (Nat.le_refl _) _).drew
      have HSK : Hid (∀ {hi : Nat} {wr : World} {rs : List (List Int)}, RelSt W.heap.size hi W wr L O P.n rs → wr.cell? ⟨pr, 0, none⟩ = some (.pointer (some ⟨br, 0, none⟩)) ∧ wr.cell? ⟨br, 1 + i, none⟩ = some (.int .i64 (q : Int)) ∧ wr.rangeAt br (13 + i * 12) (vec (P.pow i))) :=
        Lib.hid (fun hS => ⟨(HKW.out hS).1, by rw [← HQ.out]; exact (HKW.out hS).2.ordc (by omega), (HKW.out hS).2.pow i (by omega)⟩)
      have hu82 := Try.underlying82
      have hi82 : (Try.prog.info? 82).map (·.size) = some (vec (P.pow i)).length := by rw [length_vec]; exact info82
      have hl82 := length_vec (P.pow i)
      have ho82 : ∀ v ∈ vec (P.pow i), v.oneCell' = true := by intro v hv; simp [vec] at hv; obtain ⟨k, _, rfl⟩ := hv; rfl
      have HFW := few_I HV.out i hi
      clear hREP hpc hRr hoc hwr
      go_wp2_with fail
      go_region_held3 (fun w' => w'.cell? ⟨pr, 0, none⟩ = some (.pointer (some ⟨br, 0, none⟩)) ∧ w'.cell? ⟨br, 1 + i, none⟩ = some (.int .i64 (q : Int)) ∧ w'.rangeAt br (13 + i * 12) (vec (P.pow i))) (first | exact HSK.out HS4.out | exact HSS.out _ HW.out | exact HSS.out _ HBA.out)
        (first
        | (go_at_call 66
           (refine HREP.out.mono ?_)
           rintro e w3 ⟨u, rfl, ⟨g, rfl, hg1, hg2⟩, hb3⟩
           have hbw3 : Below wr.heap.size wr w3 := HBA.out.trans (hb3.mono (HBA.out.size))
           have hg3 : wr.heap.size ≤ g := by simp at hg1; omega
           have HW := Lib.hid hbw3
           have HG := Lib.hid hg2
           clear hg1 hg2 hb3 hbw3)
        | (go_at_call 65
           (refine (add_any (HS.out.below (by omega) HW.out) ((HW.out.block L (by have := HS.out.lh; omega)).trans HLr.out) hLl (by omega) (by omega) (HSS.out _ HW.out).1 (by omega) ((HKW.out (HS.out.below (by omega) HW.out)).2.n) (by omega) (owns_rep HG.out hg3 hq1) (fun x hx => by rw [(List.mem_replicate.1 hx).2]; omega) (pow_le HV.out hlt) hn12 (by rw [List.length_replicate]; omega) (by have := HFW.1; omega) (by have := HFW.2; omega)).mono ?_)
           rintro e w4 ⟨rfl, hS4, hL4⟩
           have HS4 := Lib.hid hS4
           have HL4 := Lib.hid hL4
           clear hS4 hL4))
      clear HSS HW HREP HBA HSK
      go_wp2_with fail
      have e1 : relsI P (i + 1) = relsI P i ++ [List.replicate q ((i : Int) + 1) ++ back (P.pow i) P.n] := by
        show relsI P i ++ [List.replicate (P.ord i).toNat ((i : Int) + 1) ++ back (P.pow i) P.n] = _
        rw [HQ.out, Int.toNat_natCast]
      have HE3 := Lib.hid e1
      clear e1
      go_roundw
      case rel => exact ⟨i + 1, by omega, by go_num, by rw [HE3.out]; exact HS4.out, by rw [HE3.out]; exact HL4.out⟩
      case measure => simp [intOf]; omega
    · obtain rfl : i = P.n := by omega
      rename World => wa
      obtain ⟨hpc, hRr⟩ := HKW.out HS.out
      have hnr := hRr.n
      have hA1 : relsI P P.n = relsI P P.n ++ relsC P 0 := by rw [show relsC P 0 = [] from rfl, List.append_nil]
      have hS1 := HS.out
      have hL1 := HLr.out
      rw [hA1] at hS1 hL1
      have HS1 := Lib.hid hS1
      have HL1 := Lib.hid hL1
      clear hA1 hS1 hL1 hRr HS HLr hS' HI0
      go_wp2_with fail
      clear hpc hnr
      go_loopw [63] (fun s wr => ∃ j : Nat, j ≤ P.n ∧ s = .int .i64 j ∧ RelSt W.heap.size wr.heap.size W wr L O P.n (relsI P P.n ++ relsC P j) ∧ wr.heap[L]? = some (.cells #[.int .i64 (tot (relsI P P.n ++ relsC P j))] 3 (0, 0))) (fun s _ => P.n - (intOf s).toNat)
      case atStart => exact ⟨0, Nat.zero_le _, rfl, HS1.out, HL1.out⟩
      case round =>
        obtain ⟨j, hj, rfl, hS, hL⟩ := hrel
        have HS := Lib.hid hS
        have HLr := Lib.hid hL
        clear hS hL HS1 HL1
        by_cases hlt : j < P.n
        · have hj0 : (0 : Int) ≤ (j : Int) := Int.natCast_nonneg _
          have hj12 : (j : Int) < 12 := by omega
          have hjn : (j : Int) < (P.n : Int) := by omega
          rename World => wb
          have hA1 : relsI P P.n ++ relsC P j = relsI P P.n ++ (relsC P j ++ relsJ P j 0) := by rw [show relsJ P j 0 = [] from rfl, List.append_nil]
          have hS1 := HS.out
          have hL1 := HLr.out
          rw [hA1] at hS1 hL1
          have HS1 := Lib.hid hS1
          have HL1 := Lib.hid hL1
          clear hA1 hS1 hL1 HS HLr
          go_wp2_with fail
          go_loopw [67] (fun s wr => ∃ i : Nat, i ≤ j ∧ s = .int .i64 i ∧ RelSt W.heap.size wr.heap.size W wr L O P.n (relsI P P.n ++ (relsC P j ++ relsJ P j i)) ∧ wr.heap[L]? = some (.cells #[.int .i64 (tot (relsI P P.n ++ (relsC P j ++ relsJ P j i)))] 3 (0, 0))) (fun s _ => j - (intOf s).toNat)
          case atStart => exact ⟨0, Nat.zero_le _, rfl, HS1.out, HL1.out⟩
          case round =>
            obtain ⟨i, hi, rfl, hS, hL⟩ := hrel
            have HS := Lib.hid hS
            have HLr := Lib.hid hL
            clear hS hL HS1 HL1
            by_cases hij : i < j
            · have hi0 : (0 : Int) ≤ (i : Int) := Int.natCast_nonneg _
              have hi12 : (i : Int) < 12 := by omega
              have hij' : (i : Int) < (j : Int) := by omega
              have hpa : (wr.alloc (.cells #[.int .i64 (-(i : Int) - 1), .int .i64 ((j : Int) + 1), .int .i64 ((i : Int) + 1)] 3)).cell? ⟨pr, 0, none⟩ = some (.pointer (some ⟨br, 0, none⟩)) := (KC.of_below ((Below.refl _ wr).alloc (Nat.le_refl _) _)).cell (HKW.out HS.out).1
              have hra : Hid (RulesAt (wr.alloc (.cells #[.int .i64 (-(i : Int) - 1), .int .i64 ((j : Int) + 1), .int .i64 ((i : Int) + 1)] 3)) br P) := Lib.hid ((HKW.out HS.out).2.below ((Below.refl _ wr).alloc (Nat.le_refl _) _))
              have HBA : Hid (Below wr.heap.size wr (wr.alloc (.cells #[.int .i64 (-(i : Int) - 1), .int .i64 ((j : Int) + 1), .int .i64 ((i : Int) + 1)] 3))) := Lib.hid ((Below.refl _ wr).alloc (Nat.le_refl _) _)
              have HOW : Hid ((wr.alloc (.cells #[.int .i64 (-(i : Int) - 1), .int .i64 ((j : Int) + 1), .int .i64 ((i : Int) + 1)] 3)).ownsRow wr.heap.size 3 1 (.slice (some ⟨wr.heap.size, 0, none⟩) 3 3) [-(i : Int) - 1, (j : Int) + 1, (i : Int) + 1].length (ints [-(i : Int) - 1, (j : Int) + 1, (i : Int) + 1])) := Lib.hid (owns_three (heap_alloc_new wr _) (Nat.le_refl _))
              have HFW := Lib.hid ((few_I HV.out P.n (Nat.le_refl _)).app ((few_C HV.out j hj).app (few_J HV.out hlt i hi)))
              go_wp2_with (first
                | (refine wpList_load_mid rfl 82 (.tmp 85) rfl br _ rfl (vec (P.cj j i)) _ (hra.out.cj j (by omega) i (by omega)) Try.underlying82 rfl (by rw [length_vec]; exact info82) ?_)
                | (go_at_call 65
                   (refine (add_any (HS.out.below (by omega) HBA.out) ((HBA.out.block L (by have := HS.out.lh; have := HS.out.hs; omega)).trans HLr.out) hLl (by omega) (by omega) hpa (by omega) hra.out.n (by omega) HOW.out (fun x hx => by simp at hx; omega) (cj_le HV.out hlt hij) hn12 (by simp) (by have := HFW.out.1; omega) (by have := HFW.out.2; omega)).mono ?_)
                   rintro e w4 ⟨rfl, hS4, hL4⟩
                   have HS4 := Lib.hid hS4
                   have HL4 := Lib.hid hL4
                   clear hS4 hL4))
              have e1 : relsI P P.n ++ (relsC P j ++ relsJ P j (i + 1)) = relsI P P.n ++ (relsC P j ++ relsJ P j i) ++ [[-(i : Int) - 1, (j : Int) + 1, (i : Int) + 1] ++ back (P.cj j i) P.n] := by
                rw [List.append_assoc, List.append_assoc]; rfl
              exact ⟨⟨i + 1, by omega, by go_num, by rw [e1]; exact HS4.out, by rw [e1]; exact HL4.out⟩, by simp [intOf]; omega⟩
            · obtain rfl : i = j := by omega
              go_wp2_with fail
              go_roundw
              case rel => exact ⟨i + 1, by omega, by go_num, HS.out, HLr.out⟩
              case measure => simp [intOf]; omega
        · obtain rfl : j = P.n := by omega
          have hcL : wr.cell? ⟨L, 0, none⟩ = some (.int .i64 (tot (rels P))) := by rw [cell_of_row _ _ _ _ _ _ HLr.out]; rfl
          have HFW := Lib.hid ((few_I HV.out P.n (Nat.le_refl _)).app (few_C HV.out P.n (Nat.le_refl _)))
          have ht1 : tot (rels P) ≤ 2028000 := by have := HFW.out.2; unfold rels; omega
          have ht0 := tot_nonneg (rels P)
          have HG4 : Hid (wr.heap[w.heap.size + 1]? = some (.cells #[.int .i64 0, .slice none 0 0] 46 (0, 0))) := Lib.hid ((HS.out.old _ (by omega) (by omega) (by omega)).trans HG3.out)
          have HBE : Hid (Below w.heap.size w wr) := Lib.hid (HBW.out.trans (HS.out.to_below (Nat.le_refl _) (by omega) (by omega) (by omega)))
          clear HLr
          by_cases ht : tot (rels P) > 4000
          · have HD := Lib.hid (show relsD P = (4, 0, []) by unfold relsD; rw [if_neg (by simp [HE.out]), if_neg (by omega), if_pos ht])
            have d2 : decide (tot (rels P) > 4000) = true := by simpa using ht
            go_wp2_with (first
              | ((with_reducible refine wpList_sel 92 ?_); refine wpList_val rfl (r_build46 rfl) ?_; refine wpList_skip rfl (r_store46 (.tmp 2) (.tmp 92) rfl (w.heap.size + 1) _ #[.int .i64 0, .slice none 0 0] rfl rfl HG4.out rfl rfl one46) ?_))
            refine bodyPost_ret (results_46_tmp (p := 2) (q := 3) rfl _ _ (w.heap.size + 1) #[.int .i64 0, .slice none 0 0] (.int .i64 4) rfl rfl (setRow_heap _ _ _ _ _ _ HG4.out) rfl) rfl ⟨.slice none 0 0, ?_, ?_, ?_⟩
            · rw [HD.out]
            · rw [HD.out]; exact tab_nil
            · exact HBE.out.trans ⟨rfl, rfl, rfl, by rw [World.setRow]; simp, fun k hk => setRow_other _ _ k _ (by omega)⟩
          · have HD := Lib.hid (show relsD P = (0, (P.n : Int), rels P) by unfold relsD; rw [if_neg (by simp [HE.out]), if_neg (by omega), if_neg ht])
            have d2 : decide (tot (rels P) > 4000) = false := by simpa using ht
            have htab := fun (cs : Array Value) => HS.out.tab (w' := wr.setRow (w.heap.size + 1) cs) (fun k hk _ => setRow_other _ _ k _ (by omega))
            obtain ⟨A, c, hOc, -⟩ := htab #[]
            have htb : Tab (wr.setRow (w.heap.size + 1) #[.int .i64 P.n, .slice A (rels P).length c]) (.slice A (rels P).length c) (rels P) := by
              obtain ⟨A', c', hOc', ht'⟩ := htab #[.int .i64 P.n, .slice A (rels P).length c]
              rw [hOc] at hOc'
              have e := Option.some.inj hOc'
              injection e with e1
              have e2 : (Value.slice A (rels P).length c) = .slice A' (rels P).length c' := by
                have := congrArg (fun a : Array Value => a[1]?) e1
                simpa using this
              have ht2 : Tab (wr.setRow (w.heap.size + 1) #[.int .i64 P.n, .slice A (rels P).length c]) (.slice A' (rels P).length c') (rels P) := ht'
              rw [← e2] at ht2; exact ht2
            have HOC := Lib.hid hOc
            have HTB := Lib.hid htb
            clear htab hOc htb
            go_wp2_with (first
              | ((with_reducible refine wpList_sel 93 ?_); refine wpList_val rfl (r_load46 (.tmp 6) O _ _ rfl rfl HOC.out) ?_; refine wpList_skip rfl (r_store46 (.tmp 2) (.tmp 93) rfl (w.heap.size + 1) _ #[.int .i64 P.n, .slice A (rels P).length c] rfl rfl HG4.out rfl rfl (by simp [Value.oneCell'])) ?_))
            refine bodyPost_ret (results_46_tmp (p := 2) (q := 3) rfl _ _ (w.heap.size + 1) #[.int .i64 P.n, .slice A (rels P).length c] (.int .i64 0) rfl rfl (setRow_heap _ _ _ _ _ _ HG4.out) rfl) rfl ⟨.slice A (rels P).length c, ?_, ?_, ?_⟩
            · rw [HD.out]
            · rw [HD.out]; exact HTB.out
            · exact HBE.out.trans ⟨rfl, rfl, rfl, by rw [World.setRow]; simp, fun k hk => setRow_other _ _ k _ (by omega)⟩
end Go.Proofs
namespace Go.Proofs
open Go.RowKit Go.Proofs.Pc

theorem rel_any (w : World) (v0 v1 v2 : Value) (P : PcD) (hP : PcAt w v0 v1 v2 P) : Calls Try.prog 25 #[.agg #[v0, v1, v2]] w (RelPost P w) := by
  by_cases he : (checkD P).1 = 0
  · by_cases hn : P.n = 0
    · exact rel_zero w v0 v1 v2 P hP he hn
    · exact rel_good w v0 v1 v2 P hP he (by omega)
  · exact rel_bad w v0 v1 v2 P hP he
theorem rel26_any (w : World) (v0 v1 v2 : Value) (P : PcD) (hP : PcAt w v0 v1 v2 P) : Calls Try.prog 26 #[.agg #[v0, v1, v2]] w (RelPost P w) := by
  by_cases he : (checkD P).1 = 0
  · by_cases hn : P.n = 0
    · exact rel26_zero w v0 v1 v2 P hP he hn
    · exact rel26_good w v0 v1 v2 P hP he (by omega)
  · exact rel26_bad w v0 v1 v2 P hP he
theorem RelPost.open_ {P : PcD} {w : World} {r1 r2 : Int} {r3 : List (List Int)} (h : relsD P = (r1, r2, r3)) {e : Ending} {w' : World} (hr : RelPost P w e w') :
    ∃ A c, e = .returned (.tuple #[.agg #[.int .i64 r2, .slice A r3.length c], .int .i64 r1]) ∧ Tab w' (.slice A r3.length c) r3 ∧ Below w.heap.size w w' := by
  obtain ⟨va, he, ht, hb⟩ := hr
  rw [h] at he ht
  obtain ⟨A, c, rfl, -⟩ := ht.open_
  exact ⟨A, c, he, ht, hb⟩
theorem own22_sizes (w : World) (v0 v1 v2 : Value) (P : PcD) (hP : PcAt w v0 v1 v2 P) (hs : Sizes P) : Calls Try.prog 22 #[.agg #[v0, v1, v2]] w fun e w' => (∃ u0 u1 u2, e = .returned (.agg #[u0, u1, u2]) ∧ PcAt w' u0 u1 u2 P) ∧ Below w.heap.size w w' :=
  own22_any w v0 v1 v2 P hP (by have := hs.o; omega) (by have := hs.p; omega) (fun k hk => by have := hs.pl k hk; omega) (by have := hs.c; omega) (fun k hk => by have := hs.cl k hk; omega) (fun k hk i hi => by have := hs.rl k hk i hi; omega)

/-- the boxes of CollectChecks -/
structure Ck (w : World) (P : PcD) (a0 a1 a2 o0 o1 o2 : Value) (bo : Nat) (W : World) : Prop where
  below : Below w.heap.size w W
  box : W.heap[w.heap.size]? = some (.cells #[a0, a1, a2] 26 (0, 0))
  obox : W.heap[bo]? = some (.cells #[o0, o1, o2] 26 (0, 0))
  own : PcAt W o0 o1 o2 P
theorem Ck.step {w W W' : World} {P : PcD} {a0 a1 a2 o0 o1 o2 : Value} {bo : Nat} (h : Ck w P a0 a1 a2 o0 o1 o2 bo W) (hb : Below W.heap.size W W') : Ck w P a0 a1 a2 o0 o1 o2 bo W' :=
  ⟨h.below.trans (hb.mono h.below.size), (hb.block _ (Array.getElem?_eq_some_iff.1 h.box).1).trans h.box, (hb.block _ (Array.getElem?_eq_some_iff.1 h.obox).1).trans h.obox, h.own.below hb⟩
theorem Ck.c {w W : World} {P : PcD} {a0 a1 a2 o0 o1 o2 : Value} {bo : Nat} (h : Ck w P a0 a1 a2 o0 o1 o2 bo W) :
    (W.cell? ⟨w.heap.size, 0, none⟩ = some a0 ∧ W.cell? ⟨w.heap.size, 1, none⟩ = some a1 ∧ W.cell? ⟨w.heap.size, 2, none⟩ = some a2) ∧ W.cell? ⟨bo, 0, none⟩ = some o0 ∧ W.cell? ⟨bo, 1, none⟩ = some o1 ∧ W.cell? ⟨bo, 2, none⟩ = some o2 := by
  refine ⟨⟨?_, ?_, ?_⟩, ?_, ?_, ?_⟩
  · rw [cell_of_row _ _ _ _ _ _ h.box]; rfl
  · rw [cell_of_row _ _ _ _ _ _ h.box]; rfl
  · rw [cell_of_row _ _ _ _ _ _ h.box]; rfl
  · rw [cell_of_row _ _ _ _ _ _ h.obox]; rfl
  · rw [cell_of_row _ _ _ _ _ _ h.obox]; rfl
  · rw [cell_of_row _ _ _ _ _ _ h.obox]; rfl

set_option maxRecDepth 100000 in
set_option maxHeartbeats 4000000 in
theorem ck_walk (w : World) (v0 v1 v2 : Value) (P : PcD) (hP : PcAt w v0 v1 v2 P) :
    Calls Try.prog 4 #[.agg #[v0, v1, v2]] w fun e w' => e = .returned (.bool true) ∧ Below w.heap.size w w' := by
  obtain ⟨⟨A0, c0, rfl⟩, ⟨A1, c1, rfl⟩, A2, c2, rfl⟩ := pc_slices hP
  have HP := Lib.hid hP
  have HD := Lib.hid (show Bd w (.slice A0 P.orders.length c0) (.slice A1 P.powers.length c1) (.slice A2 P.conj.length c2) (w.alloc (.cells #[.slice A0 P.orders.length c0, .slice A1 P.powers.length c1, .slice A2 P.conj.length c2] 26)) from ⟨(Below.refl _ _).alloc (Nat.le_refl _) _, heap_alloc_new w _⟩)
  obtain ⟨r1, r2, r3, hrel⟩ : ∃ a b c, relsD P = (a, b, c) := ⟨_, _, _, rfl⟩
  obtain ⟨q1, q2, hchk⟩ : ∃ a b, checkD P = (a, b) := ⟨_, _, rfl⟩
  have HREL := Lib.hid hrel
  have HQ1 : Hid ((checkD P).1 = q1) := Lib.hid (by rw [hchk])
  have HQ2 : Hid ((checkD P).2 = q2) := Lib.hid (by rw [hchk])
  clear hP hrel hchk
  go_enter Try.func4, Try.ntmps4
  go_wp2_with (first
    | (go_at_call 11; (refine (vast_bd _ _ _ _ P (HP.out.below HD.out.below)).mono ?_); rintro e w1 ⟨⟨b, rfl, hsz⟩, hb⟩; have HD := Lib.hid (HD.out.step hb); have HSZ := Lib.hid hsz; have k0 := HD.out.c0; have k1 := HD.out.c1; have k2 := HD.out.c2; clear hb hsz)
    | (go_at_call 13; (refine (awake_any _).mono ?_); rintro e w' ⟨rfl, hb⟩; have HD := Lib.hid (HD.out.step hb); clear hb)
    | (go_at_call 22
       have hbf : b = false := by first | assumption | (cases b <;> simp_all)
       (refine (own22_sizes _ _ _ _ P (HP.out.below HD.out.below) (HSZ.out hbf)).mono ?_)
       rintro e w2 ⟨⟨u0, u1, u2, rfl, hpc⟩, hb⟩
       obtain ⟨⟨B0, d0, rfl⟩, ⟨B1, d1, rfl⟩, B2, d2, rfl⟩ := pc_slices hpc
       have hD2 := HD.out.step hb
       have hal : Below w2.heap.size w2 (w2.alloc (.cells #[.slice B0 P.orders.length d0, .slice B1 P.powers.length d1, .slice B2 P.conj.length d2] 26)) := (Below.refl _ _).alloc (Nat.le_refl _) _
       have hD3 := hD2.step hal
       have HK := Lib.hid (show Ck w P (.slice A0 P.orders.length c0) (.slice A1 P.powers.length c1) (.slice A2 P.conj.length c2) (.slice B0 P.orders.length d0) (.slice B1 P.powers.length d1) (.slice B2 P.conj.length d2) w2.heap.size (w2.alloc (.cells #[.slice B0 P.orders.length d0, .slice B1 P.powers.length d1, .slice B2 P.conj.length d2] 26)) from ⟨hD3.below, hD3.box, heap_alloc_new _ _, hpc.below hal⟩)
       have k0 := HK.out.c.1.1
       have k1 := HK.out.c.1.2.1
       have k2 := HK.out.c.1.2.2
       clear hb hbf hD2 hal hD3 hpc)
    | (go_at_call 23
       (refine (check_any _ _ _ _ P (HP.out.below HK.out.below)).mono ?_)
       rintro e w3 ⟨rfl, hb⟩
       rw [HQ1.out, HQ2.out]
       have HK := Lib.hid (HK.out.step hb)
       have k0 := HK.out.c.1.1
       have k1 := HK.out.c.1.2.1
       have k2 := HK.out.c.1.2.2
       clear hb)
    | (go_at_call 24
       (refine (checkRef_any _ _ _ _ P (HP.out.below HK.out.below)).mono ?_)
       rintro e w4 ⟨rfl, hb⟩
       rw [HQ1.out, HQ2.out]
       have HK := Lib.hid (HK.out.step hb)
       have k0 := HK.out.c.1.1
       have k1 := HK.out.c.1.2.1
       have k2 := HK.out.c.1.2.2
       clear hb)
    | (go_at_call 25
       (refine (rel_any _ _ _ _ P (HP.out.below HK.out.below)).mono ?_)
       intro e w5 hr
       obtain ⟨Aa, ca, rfl, hta, hb⟩ := hr.open_ HREL.out
       have hal : Below w5.heap.size w5 (w5.alloc (.cells #[.int .i64 r2, .slice Aa r3.length ca] 46)) := (Below.refl _ _).alloc (Nat.le_refl _) _
       have HK := Lib.hid ((HK.out.step hb).step hal)
       have HTA := Lib.hid (kept_tab.below hta hal)
       have HBA := Lib.hid (heap_alloc_new w5 (.cells #[.int .i64 r2, .slice Aa r3.length ca] 46))
       have k0 := HK.out.c.1.1
       have k1 := HK.out.c.1.2.1
       have k2 := HK.out.c.1.2.2
       clear hr hb hta hal)
    | (go_at_call 26
       (refine (rel26_any _ _ _ _ P (HP.out.below HK.out.below)).mono ?_)
       intro e w6 hr
       obtain ⟨Ab, cb, rfl, htb, hb⟩ := hr.open_ HREL.out
       have hal : Below w6.heap.size w6 (w6.alloc (.cells #[.int .i64 r2, .slice Ab r3.length cb] 46)) := (Below.refl _ _).alloc (Nat.le_refl _) _
       have HBA := Lib.hid ((hal.block _ (Array.getElem?_eq_some_iff.1 ((hb.block _ (Array.getElem?_eq_some_iff.1 HBA.out).1).trans HBA.out)).1).trans ((hb.block _ (Array.getElem?_eq_some_iff.1 HBA.out).1).trans HBA.out))
       have HTA := Lib.hid (kept_tab.below (kept_tab.below HTA.out hb) hal)
       have HK := Lib.hid ((HK.out.step hb).step hal)
       have HTB := Lib.hid (kept_tab.below htb hal)
       have HBB := Lib.hid (heap_alloc_new w6 (.cells #[.int .i64 r2, .slice Ab r3.length cb] 46))
       have k0 := HK.out.c.1.1
       have k1 := HK.out.c.1.2.1
       have k2 := HK.out.c.1.2.2
       have m0 := (cell_of_row _ _ 0 _ _ _ HBA.out).trans (show _ = some (Value.int .i64 r2) from rfl)
       have m1 := (cell_of_row _ _ 1 _ _ _ HBA.out).trans (show _ = some (Value.slice Aa r3.length ca) from rfl)
       have n0 := (cell_of_row _ _ 0 _ _ _ HBB.out).trans (show _ = some (Value.int .i64 r2) from rfl)
       have n1 := (cell_of_row _ _ 1 _ _ _ HBB.out).trans (show _ = some (Value.slice Ab r3.length cb) from rfl)
       clear hr hb htb hal)
    | (go_at_call 27
       (refine (same17_any _ _ _ _ _ _ _ HTA.out HTB.out rfl).mono ?_)
       rintro e w7 ⟨rfl, hb⟩
       rw [show decide (r3 = r3) = true from decide_eq_true rfl]
       have HK := Lib.hid (HK.out.step hb)
       have k0 := HK.out.c.1.1
       have k1 := HK.out.c.1.2.1
       have k2 := HK.out.c.1.2.2
       have o0 := HK.out.c.2.1
       have o1 := HK.out.c.2.2.1
       have o2 := HK.out.c.2.2.2
       clear hb)
    | (go_at_call 20
       (refine (same_any _ _ _ _ _ _ _ P P (HP.out.below HK.out.below) HK.out.own).mono ?_)
       rintro e w8 ⟨rfl, hb⟩
       rw [sameB_iff.2 rfl]
       have HD := Lib.hid (show Bd w (.slice A0 P.orders.length c0) (.slice A1 P.powers.length c1) (.slice A2 P.conj.length c2) w8 from ⟨(HK.out.step hb).below, (HK.out.step hb).box⟩)
       clear hb))
  all_goals
    go_ret
    exact ⟨rfl, HD.out.below⟩
end Go.Proofs
namespace Go.Proofs
open Go.RowKit Go.Proofs.Pc Go.ChangeShapes Go.WideShapes Go.ChangeAt Go.Deep

section
variable {H : Type} {enc : TypeId × Value → H} {W : World}
theorem spot_none {a : Addr} {v : Value} (h : W.cell? (a.add 0) = some v) : a = ⟨a.block, a.off, none⟩ := by
  obtain ⟨b, o, s⟩ := a
  cases s with
  | none => rfl
  | some q =>
    exfalso
    have e : ({ block := b, off := o, spot := some q } : Addr).add 0 = { block := b, off := o, spot := some q } := by unfold Addr.add; rw [if_pos rfl]
    rw [e] at h
    unfold World.cell? at h
    simp only [Option.isSome_some, if_true] at h
    split at h <;> cases h
theorem wf_fits {x : Int} (h : (Lit.int .i64 x).wf = true) : -9223372036854775808 ≤ x ∧ x ≤ 9223372036854775807 := by
  simpa [Lit.wf, IntKind.min, IntKind.max, IntKind.signed, IntKind.bits] using h
theorem lat_of_trod {α : Type} {R : World → Value → α → Prop} {d : α} {t e : TypeId} {base fuel : Nat} {spare : Nat → Bool} {held : Bool} {v : Value} {x : DataW H × List MemPlace} (ht : Try.prog.underlying t = some (.slice e)) (hc : Try.prog.cellsOf e = 1)
    (hR : ∀ n u y, DataW.trod enc Try.prog W base spare held n e [u] = some y → ∃ z, R W u z) (h : DataW.trod enc Try.prog W base spare held fuel t [v] = some x) : ∃ xs, LAt R d W v xs := by
  rcases open_slice1 ht hc h with ⟨hv, -⟩ | ⟨a, len, cap, m, n, V, D, Pl, hv, -, hl, hm, hmm, -, hx⟩
  · obtain rfl : v = .slice none 0 0 := by simpa using hv
    exact ⟨[], [], ⟨none, 0, 0, rfl, rfl, Nat.le_refl _, by simp [maxLen], fun h => absurd h (by simp)⟩, rfl, fun i hi => absurd hi (by simp)⟩
  · obtain rfl : v = .slice (some a) len cap := by simpa using hv
    have hlm : len ≤ m := by rw [hmm]; split <;> omega
    have hz : ∀ i, i < len → ∃ z, R W (V i) z := fun i hi => hR n (V i) _ (hx i (by omega)).2
    have hf : ∃ f : Nat → α, ∀ i, i < len → R W (V i) (f i) := by
      have hz' : ∀ i, ∃ z, i < len → R W (V i) z := fun i => by
        by_cases hi : i < len
        · obtain ⟨z, hz⟩ := hz i hi; exact ⟨z, fun _ => hz⟩
        · exact ⟨d, fun h => absurd h hi⟩
      exact ⟨fun i => Classical.choose (hz' i), fun i => Classical.choose_spec (hz' i)⟩
    obtain ⟨f, hf⟩ := hf
    refine ⟨(List.range len).map f, (List.range len).map V, ⟨_, len, cap, rfl, by simp, hl, hm, fun h0 => ?_⟩, by simp, fun i hi => ?_⟩
    · have hsp := spot_none (hx 0 (by omega)).1
      refine ⟨a.block, a.off, by rw [← hsp], fun j u hu => ?_⟩
      have hj : j < len := by have := (List.getElem?_eq_some_iff.1 hu).1; simpa using this
      have := (hx j (by omega)).1
      rw [hsp, Addr.add_lit] at this
      rw [this, ← hu]
      simp [List.getElem?_range hj]
    · have hi' : i < len := by simpa using hi
      refine ⟨V i, by simp [List.getElem?_range hi'], ?_⟩
      have : ((List.range len).map f).getD i d = f i := by simp [List.getD_eq_getElem?_getD, List.getElem?_range hi']
      rw [this]
      exact hf i hi'
theorem ints_of_trod {base fuel : Nat} {spare : Nat → Bool} {held : Bool} {v : Value} {x : DataW H × List MemPlace} (h : DataW.trod enc Try.prog W base spare held fuel 22 [v] = some x) : ∃ xs, IntsAt W v xs := by
  obtain ⟨xs, vs, hS, hl, he⟩ := lat_of_trod (R := fun _ u z => u = .int .i64 z ∧ (Lit.int .i64 z).wf = true) (d := 0) Try.underlying22 (by kernel_rfl) (fun n u y hy => by
    obtain ⟨m, hu, -, hw⟩ := DataW.trod_int Try.underlying3 hy
    exact ⟨m, by simpa using hu, hw⟩) h
  have hvs : vs = ints xs := by
    apply List.ext_getElem (by simpa [ints] using hl)
    intro i h1 h2
    obtain ⟨u, hu, rfl, -⟩ := he i (by omega)
    have hi : i < xs.length := by omega
    rw [List.getElem?_eq_getElem h1] at hu
    rw [Option.some.inj hu]
    simp [ints, List.getD_eq_getElem?_getD, hi]
  refine ⟨xs, hvs ▸ hS, fun z hz => ?_⟩
  obtain ⟨i, hi, rfl⟩ := List.getElem_of_mem hz
  obtain ⟨u, -, -, hw⟩ := he i hi
  have e : xs.getD i 0 = xs[i] := by simp [List.getD_eq_getElem?_getD, hi]
  rw [e] at hw
  exact wf_fits hw
theorem tab_of_trod {base fuel : Nat} {spare : Nat → Bool} {held : Bool} {v : Value} {x : DataW H × List MemPlace} (h : DataW.trod enc Try.prog W base spare held fuel 23 [v] = some x) : ∃ L, Tab W v L :=
  lat_of_trod Try.underlying23 (by kernel_rfl) (fun _ _ _ hy => ints_of_trod hy) h
theorem tab3_of_trod {base fuel : Nat} {spare : Nat → Bool} {held : Bool} {v : Value} {x : DataW H × List MemPlace} (h : DataW.trod enc Try.prog W base spare held fuel 24 [v] = some x) : ∃ L, Tab3 W v L :=
  lat_of_trod Try.underlying24 (by kernel_rfl) (fun _ _ _ hy => tab_of_trod hy) h
theorem cells26 : Try.prog.cellsOf 26 = 3 := by kernel_rfl
theorem cells22 : Try.prog.cellsOf 22 = 1 := by kernel_rfl
theorem cells23 : Try.prog.cellsOf 23 = 1 := by kernel_rfl
theorem cells24 : Try.prog.cellsOf 24 = 1 := by kernel_rfl
set_option maxRecDepth 100000 in
theorem pc_of_trod {base : Nat} {spare : Nat → Bool} {held : Bool} {v : Value} {d : DataW H} {ps : List MemPlace} (h : DataW.Trod enc Try.prog W base spare held 26 v d ps) : ∃ a0 a1 a2 P, v = .agg #[a0, a1, a2] ∧ PcAt W a0 a1 a2 P := by
  obtain ⟨fuel, hf⟩ := h
  obtain ⟨y0, y1, y2, n, -, hlen, h0, h1, h2⟩ := trod_struct3 Try.underlying26 hf
  rw [cells26] at hlen
  obtain ⟨cs, rfl⟩ : ∃ cs, v = .agg cs := by
    cases v <;> simp [Value.cells] at hlen
    exact ⟨_, rfl⟩
  have hcs : cs.toList.length = 3 := hlen
  obtain ⟨l⟩ := cs
  match l, hcs with
  | [a0, a1, a2], _ =>
    simp [Value.cells, cells22, cells23, cells24] at h0 h1 h2
    obtain ⟨xs, hx⟩ := ints_of_trod h0
    obtain ⟨L, hL⟩ := tab_of_trod h1
    obtain ⟨M, hM⟩ := tab3_of_trod h2
    exact ⟨a0, a1, a2, ⟨xs, L, M⟩, rfl, hx, hL, hM⟩
end
end Go.Proofs
