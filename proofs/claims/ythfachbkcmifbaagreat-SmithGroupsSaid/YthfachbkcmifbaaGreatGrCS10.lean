/- The reference's Check, identity and size; The reference's check: it notes whether an entry is too great; The reference's rows: x times a row is added to another one; The reference's columns: x times a column is added to another one. -/
import Derived.Test.YthfachbkcmifbaaGreatGrCS8
import Derived.Test.YthfachbkcmifbaaGreatGrCS9
namespace Go.Proofs
open Go.RowKit Go.Shelf Go.Proofs.Sm
set_option maxRecDepth 100000 in
set_option maxHeartbeats 2000000 in
theorem check16_any (w : World) (n : Int) (v : Value) (l : List (List Int)) (h : Tab w v l) :
    Calls Tryz.prog 58 #[.int .i64 n, v] w fun e w' => e = .returned (.int .i64 (checkE n l)) ∧ ∃ q, w' = w.drewN q := by
  obtain ⟨A0, c0, rfl, hc1, hc2, hc⟩ := h.open_
  by_cases h1 : n < 1
  · have HE : Hid (checkE n l = 2) := Lib.hid (by unfold checkE; rw [if_pos (.inl h1)])
    have hd1 : decide (n < 1) = true := decide_eq_true h1
    clear hc h
    generalize checkE n l = z at *
    go_enter Tryz.func58, Tryz.ntmps58
    go_wp2_with fail
    go_ret
    exact ⟨ret_int HE.out.symm, 0, rfl⟩
  · have hd1 : decide (n < 1) = false := decide_eq_false h1
    by_cases h2 : 16 < n
    · have HE : Hid (checkE n l = 2) := Lib.hid (by unfold checkE; rw [if_pos (.inr h2)])
      have hd2 : decide (16 < n) = true := decide_eq_true h2
      clear hc h
      generalize checkE n l = z at *
      go_enter Tryz.func58, Tryz.ntmps58
      go_wp2_with fail
      go_ret
      exact ⟨ret_int HE.out.symm, 0, rfl⟩
    · have hd2 : decide (16 < n) = false := decide_eq_false h2
      by_cases h3 : 100 < l.length
      · have HE : Hid (checkE n l = 4) := Lib.hid (by unfold checkE; rw [if_neg (by omega), if_pos h3])
        have hd3 : decide ((100 : Int) < (l.length : Int)) = true := decide_eq_true (by omega)
        clear hc h
        generalize checkE n l = z at *
        go_enter Tryz.func58, Tryz.ntmps58
        go_wp2_with fail
        go_ret
        exact ⟨ret_int HE.out.symm, 0, rfl⟩
      · have HE : Hid (checkE n l = rowsE n l) := Lib.hid (by unfold checkE; rw [if_neg (by omega), if_neg h3])
        have hd3 : decide ((100 : Int) < (l.length : Int)) = false := decide_eq_false (by omega)
        have HC := Lib.hid hc
        clear hc h
        generalize checkE n l = z at *
        go_enter Tryz.func58, Tryz.ntmps58
        go_wp2_with fail
        go_loopw [5] (fun i wr => ∃ k : Nat, k ≤ l.length ∧ i = .int .i64 k ∧ Hid (∀ j, j < k → ((l.getD j []).length : Int) = n ∧ ((l.getD j []).any fun z => !entryB z) = false) ∧ ∃ q, wr = w.drewN q) (fun i _ => l.length - (intOf i).toNat)
        case atStart => exact ⟨0, Nat.zero_le _, rfl, Lib.hid (fun j hj => absurd hj (by omega)), 0, rfl⟩
        case round =>
          obtain ⟨k, hk, rfl, HZ, q, rfl⟩ := hrel
          have hk0 : (0 : Int) ≤ (k : Int) := Int.natCast_nonneg _
          by_cases hlt : k < l.length
          · have hlt' : (k : Int) < (l.length : Int) := by omega
            obtain ⟨b, o, rfl, hcc⟩ := HC.out (by omega)
            obtain ⟨u, hu, hI⟩ := hcc k hlt
            obtain ⟨A5, c5, rfl, e1, e2, e3⟩ := hI.open_
            have HSK := Lib.hid (rowsE_skip n l HZ.out (by omega))
            have HAT := Lib.hid (rowsE_at n l hlt)
            have HROW := Lib.hid e3
            have HZ1 := Lib.hid (fun h => all_succ (p := fun j => ((l.getD j []).length : Int) = n ∧ ((l.getD j []).any fun z => !entryB z) = false) HZ.out (k := k) h)
            clear hcc hI e3
            generalize l.getD k [] = y at *
            generalize hml : y.length = m at *
            have HM := Lib.hid hml
            clear hml
            by_cases hm : (m : Int) = n
            · have hd4 : ((m : Int) != n) = false := by simpa using hm
              have HNM := Lib.hid hm
              subst hm
              go_wp2_with fail
              go_loopw [6] (fun i wr => ∃ j : Nat, j ≤ m ∧ i = .int .i64 j ∧ Hid (∀ t, t < j → entryB (y.getD t 0) = true) ∧ ∃ q', wr = w.drewN q') (fun i _ => m - (intOf i).toNat)
              case atStart => exact ⟨0, Nat.zero_le _, rfl, Lib.hid (fun j hj => absurd hj (by omega)), by first | exact ⟨_, rfl⟩ | exact ex_drewN⟩
              case round =>
                obtain ⟨j, hj, rfl, HY, q', rfl⟩ := hrel
                have hj0 : (0 : Int) ≤ (j : Int) := Int.natCast_nonneg _
                by_cases hjl : j < m
                · have hjl' : (j : Int) < (m : Int) := by omega
                  obtain ⟨b1, o1, rfl, hcc⟩ := HROW.out (by omega)
                  have hx := hcc j hjl
                  have HYS := Lib.hid (fun h => all_succ (p := fun t => entryB (y.getD t 0) = true) HY.out (k := j) h)
                  have HANY : Hid (entryB (y.getD j 0) = false → (y.any fun z => !entryB z) = true) := Lib.hid fun h => by
                    rw [List.any_eq_true]
                    have hjy : j < y.length := by rw [HM.out]; exact hjl
                    refine ⟨y.getD j 0, ?_, by rw [h]; rfl⟩
                    rw [List.getD_eq_getElem?_getD, List.getElem?_eq_getElem hjy]
                    exact List.getElem_mem hjy
                  clear hcc
                  generalize y.getD j 0 = x at *
                  by_cases hx1 : x < -1000000
                  · have hq1 : decide (x < -1000000) = true := decide_eq_true hx1
                    have HR : Hid (rowsE (m : Int) l = 2) := Lib.hid (by rw [HSK.out, HAT.out, if_neg (fun h => h rfl), if_pos (HANY.out (by unfold entryB; exact decide_eq_false (by omega)))])
                    go_wp2_with fail
                    go_ret
                    exact ⟨ret_int (by rw [HE.out, HR.out]), by first | exact ⟨_, rfl⟩ | exact ex_drewN⟩
                  · have hq1 : decide (x < -1000000) = false := decide_eq_false hx1
                    by_cases hx2 : 1000000 < x
                    · have hq2 : decide (1000000 < x) = true := decide_eq_true hx2
                      have HR : Hid (rowsE (m : Int) l = 2) := Lib.hid (by rw [HSK.out, HAT.out, if_neg (fun h => h rfl), if_pos (HANY.out (by unfold entryB; exact decide_eq_false (by omega)))])
                      go_wp2_with fail
                      go_ret
                      exact ⟨ret_int (by rw [HE.out, HR.out]), by first | exact ⟨_, rfl⟩ | exact ex_drewN⟩
                    · have hq2 : decide (1000000 < x) = false := decide_eq_false hx2
                      have HYN := Lib.hid (HYS.out (by unfold entryB; exact decide_eq_true (by omega)))
                      go_wp2_with fail
                      go_roundw
                      case rel => exact ⟨j + 1, by omega, by go_num, HYN, by first | exact ⟨_, rfl⟩ | exact ex_drewN⟩
                      case measure => simp [intOf]; omega
                · obtain rfl : j = m := by omega
                  have HZ2 := Lib.hid (HZ1.out ⟨trivial, by
                    rw [List.any_eq_false]
                    intro z hz
                    obtain ⟨i, hi, rfl⟩ := List.getElem_of_mem hz
                    have h := HY.out i (by rw [← HM.out]; exact hi)
                    rw [List.getD_eq_getElem?_getD, List.getElem?_eq_getElem hi, Option.getD_some] at h
                    rw [h]; decide⟩)
                  go_wp2_with fail
                  go_roundw
                  case rel => exact ⟨k + 1, by omega, by go_num, HZ2, by first | exact ⟨_, rfl⟩ | exact ex_drewN⟩
                  case measure => simp [intOf]; omega
            · have hd4 : ((m : Int) != n) = true := by simpa using hm
              have HR : Hid (rowsE n l = 3) := Lib.hid (by rw [HSK.out, HAT.out, if_pos hm])
              clear HZ1 hm
              go_wp2_with fail
              go_ret
              exact ⟨ret_int (by rw [HE.out, HR.out]), by first | exact ⟨_, rfl⟩ | exact ex_drewN⟩
          · obtain rfl : k = l.length := by omega
            have HR : Hid (rowsE n l = 0) := Lib.hid (by rw [rowsE_skip n l HZ.out (Nat.le_refl _), rowsE_end])
            go_wp2_with fail
            go_ret
            exact ⟨ret_int (by rw [HE.out, HR.out]), by first | exact ⟨_, rfl⟩ | exact ex_drewN⟩
theorem idM_snoc (n i : Nat) (hi : i < n) : (idM n).take (i + 1) = (idM n).take i ++ [idRow n i] := by
  rw [List.take_add_one]
  have : (idM n)[i]? = some (idRow n i) := by simp [idM, idRow, hi]
  rw [this]; rfl
set_option maxRecDepth 100000 in
set_option maxHeartbeats 1000000 in
theorem identity36_any (w : World) (n : Nat) (hn : n ≤ 100000) : Calls Tryz.prog 59 #[.int .i64 (n : Int)] w (IdPost n w) := by
  have hn0 : (0 : Int) ≤ (n : Int) := Int.natCast_nonneg _
  have hnb : (n : Int) ≤ 100000 := by omega
  go_enter Tryz.func59, Tryz.ntmps59
  go_wp2_with fail
  go_loopw [3, 4] (fun v z wr => ∃ (i : Nat) (A : Option Addr) (c : Nat), i ≤ n ∧ z = .int .i64 i ∧ v = .slice A i c ∧ Hid ((∃ bl cs, MatM w.heap.size wr (.slice A i c) bl cs ((idM n).take i)) ∧ Below w.heap.size w wr)) (fun _ z _ => n - (intOf z).toNat)
  case atStart => exact ⟨0, none, 0, by omega, rfl, rfl, Lib.hid ⟨⟨_, _, MatM.nil _ _⟩, Below.refl _ _⟩⟩
  case round =>
    obtain ⟨i, A, c, hi, rfl, rfl, HI⟩ := hrel
    have hi0 : (0 : Int) ≤ (i : Int) := Int.natCast_nonneg _
    by_cases hlt : i < n
    · have hlt' : (i : Int) < (n : Int) := by omega
      obtain ⟨wi, hwi⟩ : ∃ wi, wi = wr := ⟨_, rfl⟩
      obtain ⟨w2, hm2, hx2, hb2, hz2⟩ := make25_any wr n (by omega)
      obtain ⟨⟨bl, cs, hM⟩, hB⟩ := HI.out
      have hc3 : w2.cell? ⟨wr.heap.size, i, none⟩ = some (.int .i64 0) := by
        have h := hx2.cell (k := i) (by simp; omega)
        rwa [getD_replicate _ _ _ hlt] at h
      have hf3 := hx2.frozen i
      have hx3 := hx2.set (k := i) (by simp; omega) 1
      rw [idRow_set hlt] at hx3
      have hb3 : Below wr.heap.size wr (w2.setCell ⟨wr.heap.size, i, none⟩ (.int .i64 1)) := hb2.setCell (p := ⟨wr.heap.size, i, none⟩) (Nat.le_refl _) _
      have hlen : ((idM n).take i).length = i := by rw [List.length_take, idM_length]; omega
      have hsz : (w2.setCell ⟨wr.heap.size, i, none⟩ (.int .i64 1)).heap.size = w2.heap.size := by simp
      obtain ⟨A2, c2, w4, p1, ⟨bl2, cs2, hM2⟩, hg⟩ := (hM.keep hb3).push (g := wr.heap.size) (c := n) (Nat.le_trans hB.size hb3.size) hx3 hB.size (by rw [idRow_length]; exact Nat.le_refl _) (by omega) (fun j hj e => by have := hM.lt.1 j hj; omega) (by rw [hlen]; omega)
      rw [hlen, idRow_length, hsz] at p1
      rw [hlen, ← idM_snoc n i hlt] at hM2
      have HN : Hid ((∃ bl cs, MatM w.heap.size w4 (.slice A2 (i + 1) c2) bl cs ((idM n).take (i + 1))) ∧ Below w.heap.size w w4) := Lib.hid ⟨⟨_, _, hM2⟩, (hB.trans (hb3.mono hB.size)).grown hg (Nat.le_trans hB.size hb3.size) fun r hr => (owns_block (hM.keep hb3).out r hr).1⟩
      have HM2 := Lib.hid hm2
      have HP := Lib.hid p1
      clear hm2 hx2 hb2 hz2 hM hB hx3 hb3 hlen hsz hM2 hg p1 HI
      go_wp2_with (first
        | ((with_reducible refine wpList_sel 12 ?_); refine wpList_val rfl (r_make 25 (.tmp 11) (.tmp 11) rfl rfl rfl HM2.out) ?_)
        | ((with_reducible refine wpList_sel 19 ?_); refine wpList_val rfl (r_app (.tmp 16) (.tmp 18) 40 rfl rfl rfl HP.out) ?_))
      go_roundw
      case rel => exact ⟨i + 1, A2, c2, by omega, by go_num, rfl, HN⟩
      case measure => simp [intOf]; omega
    · obtain rfl : i = n := by omega
      have HR := Lib.hid HI.out
      go_wp2_with fail
      go_ret
      obtain ⟨⟨bl, cs, hM⟩, hB⟩ := HR.out
      exact ⟨_, _, bl, cs, rfl, by rw [List.take_of_length_le (by rw [idM_length]; exact Nat.le_refl _)] at hM; exact hM, hB⟩
theorem size74_any (w : World) (x : Int) (hx : In64 x) (hx2 : In64 (-x)) : Calls Tryz.prog 88 #[.int .i64 x] w fun e w' => e = .returned (.int .i64 (x.natAbs : Int)) ∧ w' = w := by
  obtain ⟨h1, h2⟩ := hx
  obtain ⟨h3, h4⟩ := hx2
  have hw : IntKind.i64.wrap (-x) = -x := IntWalk.i64_in _ (by omega)
  by_cases h : x < -x
  · have HE : Hid ((x.natAbs : Int) = -x) := Lib.hid (by omega)
    go_enter Tryz.func88, Tryz.ntmps88
    go_wp2_with fail
    go_ret
    exact ⟨ret_int HE.out.symm, rfl⟩
  · have HE : Hid ((x.natAbs : Int) = x) := Lib.hid (by omega)
    go_enter Tryz.func88, Tryz.ntmps88
    go_wp2_with fail
    go_ret
    exact ⟨ret_int HE.out.symm, rfl⟩
end Go.Proofs
namespace Go.Proofs
open Go.RowKit Go.Shelf Go.Proofs.Sm
def badR (p : List Int) (j : Nat) : Bool := (p.take j).any fun x => !small x
def badM (m : Mat) (k : Nat) : Bool := (m.take k).any fun p => !(p.all small)
def badS (s : S) (c : Nat) : Bool := (List.range c).any fun i => !fineM (s.mat i)
theorem badR_succ {p : List Int} {j : Nat} (h : j < p.length) : badR p (j + 1) = (badR p j || !small (p.getD j 0)) := by
  unfold badR
  rw [List.take_add_one, List.any_append, List.getD_eq_getElem?_getD, List.getElem?_eq_getElem h]
  simp
theorem badR_full (p : List Int) : badR p p.length = !(p.all small) := by
  unfold badR
  rw [List.take_length, any_not_small]
theorem badM_succ {m : Mat} {k : Nat} (h : k < m.length) : badM m (k + 1) = (badM m k || !((m.getD k []).all small)) := by
  unfold badM
  rw [List.take_add_one, List.any_append, List.getD_eq_getElem?_getD, List.getElem?_eq_getElem h]
  simp
theorem badM_full (m : Mat) : badM m m.length = !(fineM m) := by
  unfold badM fineM
  rw [List.take_length]
  induction m with
  | nil => rfl
  | cons a l ih => simp only [List.any_cons, List.all_cons, ih, Bool.not_and]
theorem badS_succ (s : S) (c : Nat) : badS s (c + 1) = (badS s c || !fineM (s.mat c)) := by
  unfold badS
  rw [List.range_succ, List.any_append]
  simp
theorem badS_three (s : S) : badS s 3 = !s.fine := by
  unfold badS S.fine
  simp [List.range, List.range.loop, Sm.S.mat, Bool.not_and]
theorem lit3_keep {w : World} {B b k : Nat} {C : Array Value} {v : Value} (h : w.heap[B]? = some (.cells C 40 (0, 0))) (hb : B ≠ b) : (w.setCell ⟨b, k, none⟩ v).heap[B]? = some (.cells C 40 (0, 0)) :=
  (Below.heap_setCell w ⟨b, k, none⟩ v B hb).trans h
theorem small_abs (x : Int) : (!small x) = decide ((1000000000 : Int) < (x.natAbs : Int)) := by
  by_cases h : small x = true
  · rw [h]
    have := small_iff.1 h
    rw [decide_eq_false (by omega)]; rfl
  · rw [Bool.not_eq_true] at h
    rw [h]
    have h2 : ¬ (-1000000000 ≤ x ∧ x ≤ 1000000000) := fun h3 => by rw [small_iff.2 h3] at h; cases h
    rw [decide_eq_true (by omega)]; rfl
set_option maxRecDepth 100000 in
set_option maxHeartbeats 2000000 in
theorem check76_any (base b r n : Nat) (w : World) (s : S) (x0 : Bool) (hs : Shape r n s) (hr : r ≤ 100000) (hn : n ≤ 100000) (hS : Wk 86 b base w s (.bool x0)) (hbw : base ≤ w.heap.size) (hm : ∀ y ∈ allRows s, ∀ z ∈ y, Mid z) :
    Calls Tryz.prog 90 #[.pointer (some ⟨b, 0, none⟩)] w fun e w' => e = .returned (.tuple #[]) ∧ Wk 86 b base w' s (.bool (x0 || !s.fine)) ∧ Chb b base w w' := by
  obtain ⟨vs, bl, cs, hM⟩ := hS
  obtain ⟨c0, c1, c2, c3, c4⟩ := hM.cells
  have hbl := hM.lt
  have HM := Lib.hid hM
  have HLEN : Hid (∀ c, c < 3 → (s.mat c).length ≤ 100000 ∧ ∀ k, k < (s.mat c).length → ((s.mat c).getD k []).length ≤ 100000) := Lib.hid fun c hc => by
    obtain rfl | rfl | rfl : c = 0 ∨ c = 1 ∨ c = 2 := by omega
    · exact ⟨by rw [show (s.mat 0).length = r from hs.ra.1]; exact hr, fun k hk => by rw [show ((s.mat 0).getD k []).length = n from rect_row hs.ra (by rw [← hs.ra.1]; exact hk)]; exact hn⟩
    · exact ⟨by rw [show (s.mat 1).length = r from hs.ru.1]; exact hr, fun k hk => by rw [show ((s.mat 1).getD k []).length = r from rect_row hs.ru (by rw [← hs.ru.1]; exact hk)]; exact hr⟩
    · exact ⟨by rw [show (s.mat 2).length = n from hs.rv.1]; exact hn, fun k hk => by rw [show ((s.mat 2).getD k []).length = n from rect_row hs.rv (by rw [← hs.rv.1]; exact hk)]; exact hn⟩
  have HMID : Hid (∀ c k j, c < 3 → k < (s.mat c).length → j < ((s.mat c).getD k []).length → Mid (((s.mat c).getD k []).getD j 0)) := Lib.hid fun c k j hc hk hj => by
    refine hm ((s.mat c).getD k []) ?_ _ (by rw [List.getD_eq_getElem?_getD (l := (s.mat c).getD k []), List.getElem?_eq_getElem hj]; exact List.getElem_mem hj)
    have hmem : (s.mat c).getD k [] ∈ s.mat c := by rw [List.getD_eq_getElem?_getD, List.getElem?_eq_getElem hk]; exact List.getElem_mem hk
    obtain rfl | rfl | rfl : c = 0 ∨ c = 1 ∨ c = 2 := by omega
    · exact List.mem_append_left _ hmem
    · exact List.mem_append_right _ (List.mem_append_left _ hmem)
    · exact List.mem_append_right _ (List.mem_append_right _ hmem)
  have HTHREE := Lib.hid (badS_three s)
  obtain ⟨A0, d0, hv0, -, -⟩ := hM.form (k := 0) (by omega)
  obtain ⟨A1, d1, hv1, -, -⟩ := hM.form (k := 1) (by omega)
  obtain ⟨A2, d2, hv2, -, -⟩ := hM.form (k := 2) (by omega)
  rw [hv0] at c0
  rw [hv1] at c1
  rw [hv2] at c2
  have HV := Lib.hid (And.intro hv0 (And.intro hv1 hv2))
  clear hM hs hm c4 hv0 hv1 hv2
  generalize (s.mat 0).length = n0 at c0 HV
  generalize (s.mat 1).length = n1 at c1 HV
  generalize (s.mat 2).length = n2 at c2 HV
  have HB0 : Hid (∀ W, Below w.heap.size w W → WkM 86 b base W s (.bool (x0 || badS s 0)) vs bl cs ∧ Chb b base w W) := Lib.hid fun W hW => ⟨by
    rw [show badS s 0 = false from rfl, Bool.or_false]; exact HM.out.below hW, Chb.of_below ⟨_, _, _, HM.out⟩ hbw hW⟩
  go_enter Tryz.func90, Tryz.ntmps90
  go_wp2_with fail
  go_region
  go_wp2_with fail
  have HLIT0 : Hid ((w.alloc (.cells #[.slice A0 n0 d0, .slice A1 n1 d1, .slice A2 n2 d2] 40)).drew.heap[w.heap.size]? = some (.cells #[vs 0, vs 1, vs 2] 40 (0, 0))) := Lib.hid (by rw [HV.out.1, HV.out.2.1, HV.out.2.2]; exact heap_one w _)
  have HST := Lib.hid (HB0.out _ (below_one w (.cells #[.slice A0 n0 d0, .slice A1 n1 d1, .slice A2 n2 d2] 40)))
  clear HB0 c0 c1 c2 c3
  generalize hB : w.heap.size = B at *
  have hBb : B ≠ b := by omega
  go_loopw [3] (fun z wr => ∃ c : Nat, c ≤ 3 ∧ z = .int .i64 c ∧ Hid (WkM 86 b base wr s (.bool (x0 || badS s c)) vs bl cs ∧ wr.heap[B]? = some (.cells #[vs 0, vs 1, vs 2] 40 (0, 0)) ∧ Chb b base w wr)) (fun z _ => 3 - (intOf z).toNat)
  case atStart => exact ⟨0, by omega, rfl, Lib.hid ⟨HST.out.1, HLIT0.out, HST.out.2⟩⟩
  case round =>
    obtain ⟨c, hc, rfl, HQ⟩ := hrel
    have hc0 : (0 : Int) ≤ (c : Int) := Int.natCast_nonneg _
    by_cases hcl : c < 3
    · have hcl' : (c : Int) < 3 := by omega
      have HFIN : Hid (∀ wr, WkM 86 b base wr s (.bool (x0 || badS s c || badM (s.mat c) (s.mat c).length)) vs bl cs → WkM 86 b base wr s (.bool (x0 || badS s (c + 1))) vs bl cs) := Lib.hid fun wr h => by
        rw [badS_succ, ← badM_full, ← Bool.or_assoc]; exact h
      have HQ0 : Hid (WkM 86 b base wr s (.bool (x0 || badS s c || badM (s.mat c) 0)) vs bl cs ∧ wr.heap[B]? = some (.cells #[vs 0, vs 1, vs 2] 40 (0, 0)) ∧ Chb b base w wr) := Lib.hid (by
        rw [show badM (s.mat c) 0 = false from rfl, Bool.or_false]; exact HQ.out)
      obtain ⟨A, d, hv, -, -⟩ := HM.out.form hcl
      have HLIT : Hid (∀ W : World, W.heap[B]? = some (.cells #[vs 0, vs 1, vs 2] 40 (0, 0)) → W.cell? ⟨B, c, none⟩ = some (.slice A (s.mat c).length d)) := Lib.hid fun W hW => by
        rw [cell_of_row _ _ _ _ _ _ hW, ← hv]
        obtain rfl | rfl | rfl : c = 0 ∨ c = 1 ∨ c = 2 := by omega
        · rfl
        · rfl
        · rfl
      have HROWS : Hid (∀ W y k, WkM 86 b base W s y vs bl cs → k < (s.mat c).length → ∃ g, A = some ⟨g, 0, none⟩ ∧ W.cell? ⟨g, k, none⟩ = some (.slice (some ⟨bl c k, 0, none⟩) ((s.mat c).getD k []).length (cs c k)) ∧ ((s.mat c).getD k []).length ≤ cs c k ∧ ∀ j, j < ((s.mat c).getD k []).length → W.cell? ⟨bl c k, j, none⟩ = some (.int .i64 (((s.mat c).getD k []).getD j 0))) := Lib.hid fun W y k hW hk => by
        obtain ⟨g, d', hv', h1, -, -⟩ := hW.row_at (k := c) (i := k) hcl hk
        rw [hv] at hv'
        obtain rfl : A = some ⟨g, 0, none⟩ := by injection hv'
        exact ⟨g, rfl, h1, (hW.row c k hcl hk).2.2.1, fun j hj => (hW.ent_at (k := c) (i := k) (j := j) hcl hk hj).1⟩
      have HL2 := Lib.hid (HLEN.out c hcl)
      have HMD2 := Lib.hid (fun k j => HMID.out c k j hcl)
      have hnl := HL2.out.1
      have HSUC : Hid (∀ k, k < (s.mat c).length → badM (s.mat c) (k + 1) = (badM (s.mat c) k || badR ((s.mat c).getD k []) ((s.mat c).getD k []).length)) := Lib.hid fun k hk => by rw [badM_succ hk, badR_full]
      have hlit0 := HLIT.out _ HQ.out.2.1
      clear hv
      generalize (x0 || badS s c) = ov1 at *
      generalize hmc : s.mat c = mc at *
      obtain ⟨N, hN⟩ : ∃ N, N = mc.length := ⟨_, rfl⟩
      rw [← hN] at HFIN HLIT HROWS HMD2 hnl HSUC hlit0
      have HN := Lib.hid hN
      clear hN hmc
      have hNb : (N : Int) ≤ 100000 := by omega
      go_wp2_with fail
      go_loopw [4] (fun z wr => ∃ k : Nat, k ≤ N ∧ z = .int .i64 k ∧ Hid (WkM 86 b base wr s (.bool (ov1 || badM mc k)) vs bl cs ∧ wr.heap[B]? = some (.cells #[vs 0, vs 1, vs 2] 40 (0, 0)) ∧ Chb b base w wr)) (fun z _ => N - (intOf z).toNat)
      case atStart => exact ⟨0, by omega, rfl, HQ0⟩
      case round =>
        obtain ⟨k, hk, rfl, HK⟩ := hrel
        have hk0 : (0 : Int) ≤ (k : Int) := Int.natCast_nonneg _
        have hlit1 := HLIT.out _ HK.out.2.1
        by_cases hkl : k < N
        · have hkl' : (k : Int) < (N : Int) := by omega
          obtain ⟨g, rfl, hrow, hrc, -⟩ := HROWS.out _ _ k HK.out.1 hkl
          have HFIN2 : Hid (∀ wr, WkM 86 b base wr s (.bool (ov1 || badM mc k || badR (mc.getD k []) (mc.getD k []).length)) vs bl cs → WkM 86 b base wr s (.bool (ov1 || badM mc (k + 1))) vs bl cs) := Lib.hid fun wr h => by
            rw [HSUC.out k hkl, ← Bool.or_assoc]; exact h
          have HK0 : Hid (WkM 86 b base wr s (.bool (ov1 || badM mc k || badR (mc.getD k []) 0)) vs bl cs ∧ wr.heap[B]? = some (.cells #[vs 0, vs 1, vs 2] 40 (0, 0)) ∧ Chb b base w wr) := Lib.hid (by
            rw [show badR (mc.getD k []) 0 = false from rfl, Bool.or_false]; exact HK.out)
          have HRK : Hid (∀ W y, WkM 86 b base W s y vs bl cs → W.cell? ⟨g, k, none⟩ = some (.slice (some ⟨bl c k, 0, none⟩) (mc.getD k []).length (cs c k)) ∧ ∀ j, j < (mc.getD k []).length → W.cell? ⟨bl c k, j, none⟩ = some (.int .i64 ((mc.getD k []).getD j 0))) := Lib.hid fun W y hW => by
            obtain ⟨g', e, h1, -, h2⟩ := HROWS.out _ _ k hW hkl
            obtain rfl : g = g' := by injection e with e1; injection e1
            exact ⟨h1, h2⟩
          have hlen := HL2.out.2 k (by rw [← HN.out]; exact hkl)
          have HMD3 := Lib.hid (fun j => HMD2.out k j hkl)
          have HSR : Hid (∀ j, j < (mc.getD k []).length → badR (mc.getD k []) (j + 1) = (badR (mc.getD k []) j || decide ((1000000000 : Int) < (((mc.getD k []).getD j 0).natAbs : Int)))) := Lib.hid fun j hj => by rw [badR_succ hj, small_abs]
          generalize (ov1 || badM mc k) = ov2 at *
          generalize mc.getD k [] = row at *
          obtain ⟨L, hL⟩ : ∃ L, L = row.length := ⟨_, rfl⟩
          rw [← hL] at hrow hrc HFIN2 HRK hlen HMD3 HSR
          clear hL
          generalize bl c k = bk at *
          generalize cs c k = ck at *
          have hLb : (L : Int) ≤ 100000 := by omega
          go_wp2_with fail
          go_loopw [5] (fun z wr => ∃ j : Nat, j ≤ L ∧ z = .int .i64 j ∧ Hid (WkM 86 b base wr s (.bool (ov2 || badR row j)) vs bl cs ∧ wr.heap[B]? = some (.cells #[vs 0, vs 1, vs 2] 40 (0, 0)) ∧ Chb b base w wr)) (fun z _ => L - (intOf z).toNat)
          case atStart => exact ⟨0, by omega, rfl, HK0⟩
          case round =>
            obtain ⟨j, hj, rfl, HJ⟩ := hrel
            have hj0 : (0 : Int) ≤ (j : Int) := Int.natCast_nonneg _
            have hlit2 := HLIT.out _ HJ.out.2.1
            obtain ⟨hrow2, hents⟩ := HRK.out _ _ HJ.out.1
            by_cases hjl : j < L
            · have hjl' : (j : Int) < (L : Int) := by omega
              have hx := hents j hjl
              obtain ⟨-, -, -, b3, b4⟩ := HJ.out.1.cells
              have hfz := b4 3
              have hmid := HMD3.out j hjl
              have hsr := HSR.out j hjl
              have HSET : Hid (∀ W y, (∃ q, W = wr.drewN q) → WkM 86 b base (W.setCell ⟨b, 3, none⟩ (.bool y)) s (.bool y) vs bl cs ∧ (W.setCell ⟨b, 3, none⟩ (.bool y)).heap[B]? = some (.cells #[vs 0, vs 1, vs 2] 40 (0, 0)) ∧ Chb b base w (W.setCell ⟨b, 3, none⟩ (.bool y))) := Lib.hid fun W y ⟨q, hW⟩ => by
                subst hW
                exact ⟨(HJ.out.1.drewN q).set3 _, lit3_keep (w := wr.drewN q) HJ.out.2.1 hBb, (HJ.out.2.2.drewN q).set3 (HJ.out.1.drewN q) _⟩
              clear hents b4
              generalize row.getD j 0 = xx at *
              obtain ⟨m1, m2⟩ := hmid
              have HSZ := Lib.hid (fun W => size74_any W xx ⟨by omega, by omega⟩ ⟨by omega, by omega⟩)
              have hab : (xx.natAbs : Int) ≤ 9000000000000000000 := by omega
              generalize hbj : (ov2 || badR row j) = bj at *
              have HBJ := Lib.hid hbj
              have HSR2 := Lib.hid hsr
              clear hsr hbj m1 m2
              cases bj with
              | true =>
                go_wp2_with (go_at_call 88; (refine (HSZ.out _).mono ?_); rintro e w' ⟨rfl, rfl⟩)
                go_roundw
                case rel => exact ⟨j + 1, by omega, by go_num, Lib.hid (by rw [HSR2.out, ← Bool.or_assoc, HBJ.out, Bool.true_or]; exact HSET.out _ _ ⟨0, rfl⟩)⟩
                case measure => simp [intOf]; omega
              | false =>
                go_wp2_with (go_at_call 88; (refine (HSZ.out _).mono ?_); rintro e w' ⟨rfl, rfl⟩)
                go_roundw
                case rel => exact ⟨j + 1, by omega, by go_num, Lib.hid (by rw [HSR2.out, ← Bool.or_assoc, HBJ.out, Bool.false_or]; exact HSET.out _ _ ⟨0, rfl⟩)⟩
                case measure => simp [intOf]; omega
            · obtain rfl : j = L := by omega
              have HE : Hid (WkM 86 b base wr s (.bool (ov1 || badM mc (k + 1))) vs bl cs ∧ wr.heap[B]? = some (.cells #[vs 0, vs 1, vs 2] 40 (0, 0)) ∧ Chb b base w wr) := Lib.hid ⟨HFIN2.out _ HJ.out.1, HJ.out.2⟩
              clear hents
              go_wp2_with fail
              go_roundw
              case rel => exact ⟨k + 1, by omega, by go_num, HE⟩
              case measure => simp [intOf]; omega
        · obtain rfl : k = N := by omega
          have HE : Hid (WkM 86 b base wr s (.bool (x0 || badS s (c + 1))) vs bl cs ∧ wr.heap[B]? = some (.cells #[vs 0, vs 1, vs 2] 40 (0, 0)) ∧ Chb b base w wr) := Lib.hid ⟨HFIN.out _ HK.out.1, HK.out.2⟩
          go_wp2_with fail
          go_roundw
          case rel => exact ⟨c + 1, by omega, by go_num, HE⟩
          case measure => simp [intOf]; omega
    · obtain rfl : c = 3 := by omega
      go_wp2_with fail
      go_end0
      exact ⟨rfl, ⟨vs, bl, cs, by have h := HQ.out.1; rw [HTHREE.out] at h; exact h⟩, HQ.out.2.2⟩
end Go.Proofs
namespace Go.Proofs
open Go.RowKit Go.Shelf Go.Proofs.Sm
set_option maxRecDepth 100000 in
set_option maxHeartbeats 2000000 in
theorem rows75_any (base b i k r n : Nat) (q : Int) (w : World) (s : S) (x : Value) (hs : Shape r n s) (hi : i < r) (hk : k < r) (hr : r ≤ 1000000) (hn : n ≤ 1000000) (hS : Wk 86 b base w s x) (_hbw : base ≤ w.heap.size) (hfa : FitR s.a i k q) (hfu : FitR s.u i k q) :
    Calls Tryz.prog 89 #[.pointer (some ⟨b, 0, none⟩), .int .i64 (i : Int), .int .i64 (k : Int), .int .i64 q] w fun e w' => e = .returned (.tuple #[]) ∧ Wk 86 b base w' (s.addR i k q) x ∧ Chb b base w w' := by
  obtain ⟨vs, bl, cs, hM⟩ := hS
  obtain ⟨L0, hL0⟩ : ∃ L, L = n := ⟨_, rfl⟩
  obtain ⟨L1, hL1⟩ : ∃ L, L = r := ⟨_, rfl⟩
  have HR0 : Hid (Rect (s.mat 0) r L0) := Lib.hid (by rw [hL0]; exact hs.ra)
  have HR1 : Hid (Rect (s.mat 1) r L1) := Lib.hid (by rw [hL1]; exact hs.ru)
  have HF0 : Hid (FitR (s.mat 0) i k q) := Lib.hid hfa
  have HF1 : Hid (FitR (s.mat 1) i k q) := Lib.hid hfu
  have HM0 : Hid (WkM 86 b base w (addTo s i k q 0) x vs bl cs ∧ Chb b base w w) := Lib.hid ⟨hM, Chb.refl _ _ _⟩
  have hl0 : (L0 : Int) ≤ 1000000 := by omega
  have hl1 : (L1 : Int) ≤ 1000000 := by omega
  have hr0 : (r : Int) ≤ 1000000 := by omega
  clear hM hs hfa hfu hL0 hL1
  have hk0 : (0 : Int) ≤ (k : Int) := Int.natCast_nonneg _
  have hi0 : (0 : Int) ≤ (i : Int) := Int.natCast_nonneg _
  go_enter Tryz.func89, Tryz.ntmps89
  go_wp2_with fail
  go_loopw [8] (fun z wr => ∃ j : Nat, j ≤ L0 ∧ z = .int .i64 j ∧ Hid (WkM 86 b base wr ((addTo s i k q 0).setMat 0 (mixM (s.mat 0) i k q j)) x vs bl cs ∧ Chb b base w wr)) (fun z _ => L0 - (intOf z).toNat)
  case atStart => exact ⟨0, by omega, rfl, Lib.hid ⟨by rw [mixM_zero HR0.out hi, ← addTo_mat s i k q (c := 0) (by omega), setMat_self]; exact HM0.out.1, HM0.out.2⟩⟩
  case round =>
    obtain ⟨j, hj, rfl, HQ⟩ := hrel
    have hj0 : (0 : Int) ≤ (j : Int) := Int.natCast_nonneg _
    have hm : ((addTo s i k q 0).setMat 0 (mixM (s.mat 0) i k q j)).mat 0 = mixM (s.mat 0) i k q j := mat_set_self _ _ _
    have hml : (mixM (s.mat 0) i k q j).length = r := by rw [mixM_length]; exact HR0.out.1
    have hmr : ∀ p, p < r → ((mixM (s.mat 0) i k q j).getD p []).length = L0 := fun p hp => by rw [mixM_row HR0.out hi hk]; exact rect_row HR0.out hp
    obtain ⟨c0, c1, c2, c3, c4⟩ := HQ.out.1.cells
    obtain ⟨g, d, hv, hg1, -, -⟩ := HQ.out.1.row_at (k := 0) (i := i) (by omega) (by rw [hm, hml]; exact hi)
    obtain ⟨g2, d2, hv2, hg2, -, -⟩ := HQ.out.1.row_at (k := 0) (i := k) (by omega) (by rw [hm, hml]; exact hk)
    rw [hm, hml] at hv hv2
    rw [hv] at hv2
    obtain rfl : g = g2 := by injection hv2 with e1; injection e1 with e2; injection e2
    rw [hm, hmr i hi] at hg1
    rw [hm, hmr k hk] at hg2
    rw [hv] at c0
    have hcc1 := (HQ.out.1.row 0 i (by omega) (by rw [hm, hml]; exact hi)).2.2
    have hcc2 := (HQ.out.1.row 0 k (by omega) (by rw [hm, hml]; exact hk)).2.2
    rw [hm, hmr i hi] at hcc1
    rw [hm, hmr k hk] at hcc2
    obtain ⟨hcc1a, hcc1b⟩ := hcc1
    obtain ⟨hcc2a, hcc2b⟩ := hcc2
    have hir : (i : Int) < (r : Int) := by omega
    have hkr : (k : Int) < (r : Int) := by omega
    clear hv hv2 c1 c2 c3
    by_cases hjl : j < L0
    · have hjl' : (j : Int) < (L0 : Int) := by omega
      obtain ⟨hq2, hq3⟩ := HQ.out.1.ent_at (k := 0) (i := i) (j := j) (by omega) (by rw [hm, hml]; exact hi) (by rw [hm, hmr i hi]; exact hjl)
      obtain ⟨hq4, -⟩ := HQ.out.1.ent_at (k := 0) (i := k) (j := j) (by omega) (by rw [hm, hml]; exact hk) (by rw [hm, hmr k hk]; exact hjl)
      rw [hm, mixM_ent HR0.out hi hk] at hq2 hq4
      have hset := HQ.out.1.set (k := 0) (i := i) (j := j) (by omega) (by rw [hm, hml]; exact hi) (by rw [hm, hmr i hi]; exact hjl) (ent (s.mat 0) i j + q * ent (s.mat 0) k j)
      rw [hm, setMat_setMat, put_mixM HR0.out hi hk hjl] at hset
      obtain ⟨D, hD⟩ := HQ.out.1.row_ty (k := 0) (i := i) (by omega) (by rw [hm, hml]; exact hi)
      have hbel := HQ.out.2.setRow HQ.out.1 (k := 0) (i := i) (by omega) (by rw [hm, hml]; exact hi) j (.int .i64 (ent (s.mat 0) i j + q * ent (s.mat 0) k j))
      have HN := Lib.hid (And.intro hset hbel)
      obtain ⟨f1, f2, f3, f4⟩ := HF0.out j
      clear hm hml hmr hset hD hbel
      generalize ent (s.mat 0) i j = z at *
      generalize ent (s.mat 0) k j = y at *
      obtain ⟨f1a, f1b⟩ := f1
      obtain ⟨f2a, f2b⟩ := f2
      obtain ⟨f3a, f3b⟩ := f3
      obtain ⟨f4a, f4b⟩ := f4
      generalize bl 0 i = bi at *
      generalize bl 0 k = bk at *
      generalize cs 0 i = ci at *
      generalize cs 0 k = ck at *
      go_wp2_with fail
      go_region
      go_wp2_with fail
      go_roundw
      case rel => exact ⟨j + 1, by omega, by go_num, Lib.hid ⟨HN.out.1.drewN 1, HN.out.2.drewN 1⟩⟩
      case measure => simp [intOf]; omega
    · obtain rfl : j = L0 := by omega
      have HM1 : Hid (WkM 86 b base wr (addTo s i k q 1) x vs bl cs ∧ Chb b base w wr) := Lib.hid ⟨by have := HQ.out.1; rw [mixM_full HR0.out hi hk (Nat.le_refl _), addTo_succ s i k q (by omega)] at this; exact this, HQ.out.2⟩
      clear hm hml hmr
      go_wp2_with fail
      go_loopw [9] (fun z wr => ∃ j : Nat, j ≤ L1 ∧ z = .int .i64 j ∧ Hid (WkM 86 b base wr ((addTo s i k q 1).setMat 1 (mixM (s.mat 1) i k q j)) x vs bl cs ∧ Chb b base w wr)) (fun z _ => L1 - (intOf z).toNat)
      case atStart => exact ⟨0, by omega, rfl, Lib.hid ⟨by rw [mixM_zero HR1.out hi, ← addTo_mat s i k q (c := 1) (by omega), setMat_self]; exact HM1.out.1, HM1.out.2⟩⟩
      case round =>
        obtain ⟨j, hj, rfl, HQ⟩ := hrel
        have hj0 : (0 : Int) ≤ (j : Int) := Int.natCast_nonneg _
        have hm : ((addTo s i k q 1).setMat 1 (mixM (s.mat 1) i k q j)).mat 1 = mixM (s.mat 1) i k q j := mat_set_self _ _ _
        have hml : (mixM (s.mat 1) i k q j).length = r := by rw [mixM_length]; exact HR1.out.1
        have hmr : ∀ p, p < r → ((mixM (s.mat 1) i k q j).getD p []).length = L1 := fun p hp => by rw [mixM_row HR1.out hi hk]; exact rect_row HR1.out hp
        obtain ⟨c0, c1, c2, c3, c4⟩ := HQ.out.1.cells
        obtain ⟨g, d, hv, hg1, -, -⟩ := HQ.out.1.row_at (k := 1) (i := i) (by omega) (by rw [hm, hml]; exact hi)
        obtain ⟨g2, d2, hv2, hg2, -, -⟩ := HQ.out.1.row_at (k := 1) (i := k) (by omega) (by rw [hm, hml]; exact hk)
        rw [hm, hml] at hv hv2
        rw [hv] at hv2
        obtain rfl : g = g2 := by injection hv2 with e1; injection e1 with e2; injection e2
        rw [hm, hmr i hi] at hg1
        rw [hm, hmr k hk] at hg2
        rw [hv] at c1
        have hcc1 := (HQ.out.1.row 1 i (by omega) (by rw [hm, hml]; exact hi)).2.2
        have hcc2 := (HQ.out.1.row 1 k (by omega) (by rw [hm, hml]; exact hk)).2.2
        rw [hm, hmr i hi] at hcc1
        rw [hm, hmr k hk] at hcc2
        obtain ⟨hcc1a, hcc1b⟩ := hcc1
        obtain ⟨hcc2a, hcc2b⟩ := hcc2
        have hir : (i : Int) < (r : Int) := by omega
        have hkr : (k : Int) < (r : Int) := by omega
        clear hv hv2 c0 c2 c3
        by_cases hjl : j < L1
        · have hjl' : (j : Int) < (L1 : Int) := by omega
          obtain ⟨hq2, hq3⟩ := HQ.out.1.ent_at (k := 1) (i := i) (j := j) (by omega) (by rw [hm, hml]; exact hi) (by rw [hm, hmr i hi]; exact hjl)
          obtain ⟨hq4, -⟩ := HQ.out.1.ent_at (k := 1) (i := k) (j := j) (by omega) (by rw [hm, hml]; exact hk) (by rw [hm, hmr k hk]; exact hjl)
          rw [hm, mixM_ent HR1.out hi hk] at hq2 hq4
          have hset := HQ.out.1.set (k := 1) (i := i) (j := j) (by omega) (by rw [hm, hml]; exact hi) (by rw [hm, hmr i hi]; exact hjl) (ent (s.mat 1) i j + q * ent (s.mat 1) k j)
          rw [hm, setMat_setMat, put_mixM HR1.out hi hk hjl] at hset
          obtain ⟨D, hD⟩ := HQ.out.1.row_ty (k := 1) (i := i) (by omega) (by rw [hm, hml]; exact hi)
          have hbel := HQ.out.2.setRow HQ.out.1 (k := 1) (i := i) (by omega) (by rw [hm, hml]; exact hi) j (.int .i64 (ent (s.mat 1) i j + q * ent (s.mat 1) k j))
          have HN := Lib.hid (And.intro hset hbel)
          obtain ⟨f1, f2, f3, f4⟩ := HF1.out j
          clear hm hml hmr hset hD hbel
          generalize ent (s.mat 1) i j = z at *
          generalize ent (s.mat 1) k j = y at *
          obtain ⟨f1a, f1b⟩ := f1
          obtain ⟨f2a, f2b⟩ := f2
          obtain ⟨f3a, f3b⟩ := f3
          obtain ⟨f4a, f4b⟩ := f4
          generalize bl 1 i = bi at *
          generalize bl 1 k = bk at *
          generalize cs 1 i = ci at *
          generalize cs 1 k = ck at *
          go_wp2_with fail
          go_region
          go_wp2_with fail
          go_roundw
          case rel => exact ⟨j + 1, by omega, by go_num, Lib.hid ⟨HN.out.1.drewN 1, HN.out.2.drewN 1⟩⟩
          case measure => simp [intOf]; omega
        · obtain rfl : j = L1 := by omega
          have HM2 : Hid (WkM 86 b base wr (addTo s i k q 2) x vs bl cs ∧ Chb b base w wr) := Lib.hid ⟨by have := HQ.out.1; rw [mixM_full HR1.out hi hk (Nat.le_refl _), addTo_succ s i k q (by omega)] at this; exact this, HQ.out.2⟩
          clear hm hml hmr
          go_wp2_with fail
          go_end0
          exact ⟨rfl, ⟨vs, bl, cs, HM2.out.1⟩, HM2.out.2⟩
end Go.Proofs
namespace Go.Proofs
open Go.RowKit Go.Shelf Go.Proofs.Sm
set_option maxRecDepth 100000 in
set_option maxHeartbeats 2000000 in
theorem columns77_any (base b j k r n : Nat) (q : Int) (w : World) (s : S) (x : Value) (hs : Shape r n s) (hj : j < n) (hk : k < n) (hr : r ≤ 100000) (hn : n ≤ 100000) (hS : Wk 86 b base w s x) (hfa : FitC s.a j k q) (hfv : FitC s.v j k q) :
    Calls Tryz.prog 91 #[.pointer (some ⟨b, 0, none⟩), .int .i64 (j : Int), .int .i64 (k : Int), .int .i64 q] w fun e w' => e = .returned (.tuple #[]) ∧ Wk 86 b base w' (s.addC j k q) x ∧ Chb b base w w' := by
  obtain ⟨vs, bl, cs, hM⟩ := hS
  have HS := Lib.hid hs
  have HS' := Lib.hid (hs.addC j k q)
  have HF0 : Hid (FitC (s.mat 0) j k q) := Lib.hid hfa
  have HF2 : Hid (FitC (s.mat 2) j k q) := Lib.hid hfv
  have HM0 : Hid (WkM 86 b base w (twoTo s (s.addC j k q) r 0) x vs bl cs ∧ Chb b base w w) := Lib.hid ⟨by rw [twoTo_zero]; exact hM, Chb.refl _ _ _⟩
  have hr0 : (r : Int) ≤ 100000 := by omega
  have hn0 : (n : Int) ≤ 100000 := by omega
  clear hM hs hfa hfv
  have hk0 : (0 : Int) ≤ (k : Int) := Int.natCast_nonneg _
  have hj0 : (0 : Int) ≤ (j : Int) := Int.natCast_nonneg _
  have hkn : (k : Int) < (n : Int) := by omega
  have hjn : (j : Int) < (n : Int) := by omega
  go_enter Tryz.func91, Tryz.ntmps91
  go_wp2_with fail
  go_loopw [8] (fun z wr => ∃ i : Nat, i ≤ r ∧ z = .int .i64 i ∧ Hid (WkM 86 b base wr (twoTo s (s.addC j k q) r (i)) x vs bl cs ∧ Chb b base w wr)) (fun z _ => r - (intOf z).toNat)
  case atStart => exact ⟨0, by omega, rfl, HM0⟩
  case round =>
    obtain ⟨i, hi, rfl, HQ⟩ := hrel
    have hi0 : (0 : Int) ≤ (i : Int) := Int.natCast_nonneg _
    obtain ⟨c0, c1, c2, c3, c4⟩ := HQ.out.1.cells
    obtain ⟨A, d, hv, -, -⟩ := HQ.out.1.form (k := 0) (by omega)
    rw [show ((twoTo s (s.addC j k q) r (i)).mat 0).length = r from (mixA_rect HS.out.ra HS'.out.ra _).1] at hv
    rw [hv] at c0
    by_cases hil : i < r
    · have hil' : (i : Int) < (r : Int) := by omega
      have hof : ofTwo r (i) = (0, i) := by unfold ofTwo; rw [if_pos hil]
      have hpr : i < r + n := by omega
      have hl1 : ((twoTo s (s.addC j k q) r (i)).mat 0).length = r := (mixA_rect HS.out.ra HS'.out.ra _).1
      have hl2 : (((twoTo s (s.addC j k q) r (i)).mat 0).getD i []).length = n := by have h := twoTo_row HS.out HS'.out hpr; rw [hof] at h; exact h
      have hrow : ((twoTo s (s.addC j k q) r (i)).mat 0).getD i [] = (s.mat 0).getD i [] := by have h := twoTo_mat (q := i) HS.out HS'.out; rw [hof] at h; exact h
      have hent : ∀ y, ent ((twoTo s (s.addC j k q) r (i)).mat 0) i y = ent (s.mat 0) i y := fun y => by have h := twoTo_ent (q := i) HS.out HS'.out y; rw [hof] at h; exact h
      obtain ⟨g, d2, hv2, hg1, -, -⟩ := HQ.out.1.row_at (k := 0) (i := i) (by omega) (by rw [hl1]; exact hil)
      rw [hl1, hv] at hv2
      obtain rfl : d = d2 := by injection hv2
      obtain rfl : A = some ⟨g, 0, none⟩ := by injection hv2
      rw [hl2] at hg1
      obtain ⟨q1, q2⟩ := HQ.out.1.ent_at (k := 0) (i := i) (j := j) (by omega) (by rw [hl1]; exact hil) (by rw [hl2]; exact hj)
      obtain ⟨q3, -⟩ := HQ.out.1.ent_at (k := 0) (i := i) (j := k) (by omega) (by rw [hl1]; exact hil) (by rw [hl2]; exact hk)
      rw [hent] at q1 q3
      have hset := HQ.out.1.set (k := 0) (i := i) (j := j) (by omega) (by rw [hl1]; exact hil) (by rw [hl2]; exact hj) (ent (s.mat 0) i j + q * ent (s.mat 0) i k)
      have hput : (twoTo s (s.addC j k q) r (i)).setMat 0 (put ((twoTo s (s.addC j k q) r (i)).mat 0) i j (ent (s.mat 0) i j + q * ent (s.mat 0) i k)) = twoTo s (s.addC j k q) r ((i + 1)) := by
        unfold put
        rw [hrow]
        have h := twoTo_set (q := i) HS.out HS'.out (z := ((s.mat 0).getD i []).set j (ent (s.mat 0) i j + q * ent (s.mat 0) i k)) (by rw [hof, addC_mat s j k q (by left; rfl), addC_row])
        rw [hof] at h
        exact h
      rw [hput] at hset
      obtain ⟨D, hD⟩ := HQ.out.1.row_ty (k := 0) (i := i) (by omega) (by rw [hl1]; exact hil)
      obtain ⟨hb1, -, hcs⟩ := HQ.out.1.row 0 i (by omega) (by rw [hl1]; exact hil)
      rw [hl2] at hcs
      obtain ⟨hcs1, hcs2⟩ := hcs
      have hbel := HQ.out.2.setRow HQ.out.1 (k := 0) (i := i) (by omega) (by rw [hl1]; exact hil) j (.int .i64 (ent (s.mat 0) i j + q * ent (s.mat 0) i k))
      have HNX := Lib.hid (And.intro hset hbel)
      obtain ⟨f1, f2, f3, f4⟩ := HF0.out i
      clear hset hput hbel hrow hl1 hl2 hent hof hD hb1 hv hv2 c1 c2 c3
      generalize ent (s.mat 0) i j = z at *
      generalize ent (s.mat 0) i k = y at *
      generalize bl 0 i = bi at *
      generalize cs 0 i = ci at *
      obtain ⟨f1a, f1b⟩ := f1
      obtain ⟨f2a, f2b⟩ := f2
      obtain ⟨f3a, f3b⟩ := f3
      obtain ⟨f4a, f4b⟩ := f4
      go_wp2_with fail
      go_region
      go_wp2_with fail
      go_roundw
      case rel => exact ⟨i + 1, by omega, by go_num, Lib.hid ⟨HNX.out.1.drewN 1, HNX.out.2.drewN 1⟩⟩
      case measure => simp [intOf]; omega
    · obtain rfl : r = i := by omega
      have HM1 := Lib.hid HQ.out
      clear hv c1 c2 c3
      go_wp2_with fail
      go_loopw [9] (fun z wr => ∃ i : Nat, i ≤ n ∧ z = .int .i64 i ∧ Hid (WkM 86 b base wr (twoTo s (s.addC j k q) r (r + i)) x vs bl cs ∧ Chb b base w wr)) (fun z _ => n - (intOf z).toNat)
      case atStart => exact ⟨0, by omega, rfl, HM1⟩
      case round =>
        obtain ⟨i, hi, rfl, HQ⟩ := hrel
        have hi0 : (0 : Int) ≤ (i : Int) := Int.natCast_nonneg _
        obtain ⟨c0, c1, c2, c3, c4⟩ := HQ.out.1.cells
        obtain ⟨A, d, hv, -, -⟩ := HQ.out.1.form (k := 2) (by omega)
        rw [show ((twoTo s (s.addC j k q) r (r + i)).mat 2).length = n from (mixA_rect HS.out.rv HS'.out.rv _).1] at hv
        rw [hv] at c2
        by_cases hil : i < n
        · have hil' : (i : Int) < (n : Int) := by omega
          have hof : ofTwo r (r + i) = (2, i) := by unfold ofTwo; rw [if_neg (by omega), show r + i - r = i by omega]
          have hpr : r + i < r + n := by omega
          have hl1 : ((twoTo s (s.addC j k q) r (r + i)).mat 2).length = n := (mixA_rect HS.out.rv HS'.out.rv _).1
          have hl2 : (((twoTo s (s.addC j k q) r (r + i)).mat 2).getD i []).length = n := by have h := twoTo_row HS.out HS'.out hpr; rw [hof] at h; exact h
          have hrow : ((twoTo s (s.addC j k q) r (r + i)).mat 2).getD i [] = (s.mat 2).getD i [] := by have h := twoTo_mat (q := r + i) HS.out HS'.out; rw [hof] at h; exact h
          have hent : ∀ y, ent ((twoTo s (s.addC j k q) r (r + i)).mat 2) i y = ent (s.mat 2) i y := fun y => by have h := twoTo_ent (q := r + i) HS.out HS'.out y; rw [hof] at h; exact h
          obtain ⟨g, d2, hv2, hg1, -, -⟩ := HQ.out.1.row_at (k := 2) (i := i) (by omega) (by rw [hl1]; exact hil)
          rw [hl1, hv] at hv2
          obtain rfl : d = d2 := by injection hv2
          obtain rfl : A = some ⟨g, 0, none⟩ := by injection hv2
          rw [hl2] at hg1
          obtain ⟨q1, q2⟩ := HQ.out.1.ent_at (k := 2) (i := i) (j := j) (by omega) (by rw [hl1]; exact hil) (by rw [hl2]; exact hj)
          obtain ⟨q3, -⟩ := HQ.out.1.ent_at (k := 2) (i := i) (j := k) (by omega) (by rw [hl1]; exact hil) (by rw [hl2]; exact hk)
          rw [hent] at q1 q3
          have hset := HQ.out.1.set (k := 2) (i := i) (j := j) (by omega) (by rw [hl1]; exact hil) (by rw [hl2]; exact hj) (ent (s.mat 2) i j + q * ent (s.mat 2) i k)
          have hput : (twoTo s (s.addC j k q) r (r + i)).setMat 2 (put ((twoTo s (s.addC j k q) r (r + i)).mat 2) i j (ent (s.mat 2) i j + q * ent (s.mat 2) i k)) = twoTo s (s.addC j k q) r (r + (i + 1)) := by
            unfold put
            rw [hrow]
            have h := twoTo_set (q := r + i) HS.out HS'.out (z := ((s.mat 2).getD i []).set j (ent (s.mat 2) i j + q * ent (s.mat 2) i k)) (by rw [hof, addC_mat s j k q (by right; rfl), addC_row])
            rw [hof] at h
            exact h
          rw [hput] at hset
          obtain ⟨D, hD⟩ := HQ.out.1.row_ty (k := 2) (i := i) (by omega) (by rw [hl1]; exact hil)
          obtain ⟨hb1, -, hcs⟩ := HQ.out.1.row 2 i (by omega) (by rw [hl1]; exact hil)
          rw [hl2] at hcs
          obtain ⟨hcs1, hcs2⟩ := hcs
          have hbel := HQ.out.2.setRow HQ.out.1 (k := 2) (i := i) (by omega) (by rw [hl1]; exact hil) j (.int .i64 (ent (s.mat 2) i j + q * ent (s.mat 2) i k))
          have HNX := Lib.hid (And.intro hset hbel)
          obtain ⟨f1, f2, f3, f4⟩ := HF2.out i
          clear hset hput hbel hrow hl1 hl2 hent hof hD hb1 hv hv2 c1 c0 c3
          generalize ent (s.mat 2) i j = z at *
          generalize ent (s.mat 2) i k = y at *
          generalize bl 2 i = bi at *
          generalize cs 2 i = ci at *
          obtain ⟨f1a, f1b⟩ := f1
          obtain ⟨f2a, f2b⟩ := f2
          obtain ⟨f3a, f3b⟩ := f3
          obtain ⟨f4a, f4b⟩ := f4
          go_wp2_with fail
          go_region
          go_wp2_with fail
          go_roundw
          case rel => exact ⟨i + 1, by omega, by go_num, Lib.hid ⟨HNX.out.1.drewN 1, HNX.out.2.drewN 1⟩⟩
          case measure => simp [intOf]; omega
        · obtain rfl : n = i := by omega
          have HM1 := Lib.hid HQ.out
          clear hv c1 c0 c3
          go_wp2_with fail
          go_end0
          exact ⟨rfl, ⟨vs, bl, cs, by have h := HM1.out.1; rw [twoTo_full HS.out HS'.out rfl rfl] at h; exact h⟩, HM1.out.2⟩
end Go.Proofs
