/- column, Reverse, inverse of felsch (printed by genX7.py); The cosets of Felsch's strategy: walk; A region that draws its order: what its slots hold lies in blocks of their own (footprints); some are written again by the operation that takes them; What the slots of a drawn region hold, each in blocks of its own (for the law of T2); WordsOf; The program's Images; The walk of CosetKnown; Words of the call's own, by blocks; results of a presentation and a number; Orders of groups by a record of an enumeration: how a record is checked, and what it proves; The laws' presentations: they are valid; what Enumerate answers for them; The walk of CosetHolds; Calls as operations of a drawn region; what Enumerate answers, by blocks; The cosets of Felsch's strategy: scan. -/
import Derived.Test.YtmpnengjboabcaaFlCS14
import Derived.Test.YtmpnengjboabcaaFlCS5
import Derived.Test.YtmpnengjboabcaaFlCS9
import Derived.Test.YtmpnengjboabcaaFlCS7
import Derived.Test.YtmpnengjboabcaaFlCS3
import Derived.Test.YtmpnengjboabcaaFlCS10
import Derived.Test.YtmpnengjboabcaaFlCS6
import Derived.Test.YtmpnengjboabcaaFlCS8
import Derived.Test.YtmpnengjboabcaaFlCS1
import Derived.Test.YtmpnengjboabcaaFlCS11
namespace Go.Proofs.Ct
def revTo (xs : List Int) (k : Nat) : List Int := foldTo (fun k l => (l.set k (l.getD (xs.length - 1 - k) 0)).set (xs.length - 1 - k) (l.getD k 0)) k xs
theorem revTo_succ (xs : List Int) (k : Nat) : revTo xs (k + 1) = ((revTo xs k).set k ((revTo xs k).getD (xs.length - 1 - k) 0)).set (xs.length - 1 - k) ((revTo xs k).getD k 0) := rfl
theorem length_revTo (xs : List Int) : ∀ k, (revTo xs k).length = xs.length
  | 0 => rfl
  | k + 1 => by rw [revTo_succ, List.length_set, List.length_set, length_revTo xs k]
theorem getD_set1 {l : List Int} {k : Nat} {x : Int} (hk : k < l.length) (i : Nat) : (l.set k x).getD i 0 = if i = k then x else l.getD i 0 := by
  rw [List.getD_eq_getElem?_getD, List.getElem?_set]
  by_cases h : k = i
  · subst h
    rw [if_pos rfl, if_pos rfl]
    simp [hk]
  · rw [if_neg h, if_neg (fun e => h e.symm), List.getD_eq_getElem?_getD]
theorem revTo_getD (xs : List Int) : ∀ k, 2 * k ≤ xs.length → ∀ i, i < xs.length → (revTo xs k).getD i 0 = if i < k ∨ xs.length ≤ i + k then xs.getD (xs.length - 1 - i) 0 else xs.getD i 0
  | 0, _, i, hi => by rw [if_neg (by omega)]; rfl
  | k + 1, hk, i, hi => by
    have ih := revTo_getD xs k (by omega)
    have hl := length_revTo xs k
    rw [revTo_succ, getD_set1 (by rw [List.length_set]; omega), getD_set1 (by omega), ih k (by omega), ih (xs.length - 1 - k) (by omega), ih i hi]
    rw [if_neg (by omega : ¬ (k < k ∨ xs.length ≤ k + k)), if_neg (by omega : ¬ (xs.length - 1 - k < k ∨ xs.length ≤ xs.length - 1 - k + k))]
    by_cases h1 : i = xs.length - 1 - k
    · rw [if_pos h1, if_pos (by omega), h1, show xs.length - 1 - (xs.length - 1 - k) = k by omega]
    · rw [if_neg h1]
      by_cases h2 : i = k
      · rw [if_pos h2, if_pos (by omega), h2]
      · rw [if_neg h2]
        by_cases h3 : i < k ∨ xs.length ≤ i + k
        · rw [if_pos h3, if_pos (by omega)]
        · rw [if_neg h3, if_neg (by omega)]
theorem revTo_all (xs : List Int) {k : Nat} (h1 : 2 * k ≤ xs.length) (h2 : xs.length ≤ 2 * k + 1) : revTo xs k = xs.reverse := by
  refine List.ext_getElem? fun i => ?_
  have hl := length_revTo xs k
  rcases Nat.lt_or_ge i xs.length with hi | hi
  · have h := revTo_getD xs k h1 i hi
    rw [List.getD_eq_getElem?_getD, List.getElem?_eq_getElem (by omega)] at h
    rw [List.getElem?_eq_getElem (by omega), List.getElem?_eq_getElem (by simpa using hi), List.getElem_reverse]
    have e : xs.getD (xs.length - 1 - i) 0 = xs[xs.length - 1 - i] := by rw [List.getD_eq_getElem?_getD, List.getElem?_eq_getElem (by omega)]; rfl
    have e2 : xs.getD i 0 = xs[i] := by rw [List.getD_eq_getElem?_getD, List.getElem?_eq_getElem hi]; rfl
    simp only [Option.getD_some] at h
    rw [h]
    split
    · rw [e]
    · congr 1
      rw [e2]
      congr 1
      omega
  · rw [List.getElem?_eq_none (by omega), List.getElem?_eq_none (by simpa using hi)]
def negTo (xs : List Int) (k : Nat) : List Int := foldTo (fun k l => l.set k (-(l.getD k 0))) k xs
theorem negTo_succ (xs : List Int) (k : Nat) : negTo xs (k + 1) = (negTo xs k).set k (-((negTo xs k).getD k 0)) := rfl
theorem length_negTo (xs : List Int) : ∀ k, (negTo xs k).length = xs.length
  | 0 => rfl
  | k + 1 => by rw [negTo_succ, List.length_set, length_negTo xs k]
theorem negTo_getD (xs : List Int) : ∀ k, k ≤ xs.length → ∀ i, (negTo xs k).getD i 0 = if i < k then -(xs.getD i 0) else xs.getD i 0
  | 0, _, i => rfl
  | k + 1, hk, i => by
    have ih := negTo_getD xs k (by omega)
    rw [negTo_succ, getD_set1 (by rw [length_negTo]; omega), ih k, ih i, if_neg (Nat.lt_irrefl k)]
    by_cases h1 : i = k
    · rw [if_pos h1, if_pos (by omega), h1]
    · rw [if_neg h1]
      by_cases h2 : i < k
      · rw [if_pos h2, if_pos (by omega)]
      · rw [if_neg h2, if_neg (by omega)]
theorem negTo_all (xs : List Int) : negTo xs xs.length = xs.map fun x => -x := by
  refine List.ext_getElem? fun i => ?_
  have hl := length_negTo xs xs.length
  rcases Nat.lt_or_ge i xs.length with hi | hi
  · have h := negTo_getD xs xs.length (Nat.le_refl _) i
    rw [if_pos hi, List.getD_eq_getElem?_getD, List.getD_eq_getElem?_getD, List.getElem?_eq_getElem (by omega), List.getElem?_eq_getElem hi] at h
    rw [List.getElem?_eq_getElem (by omega), List.getElem?_map, List.getElem?_eq_getElem hi]
    exact congrArg some h
  · rw [List.getElem?_eq_none (by omega), List.getElem?_eq_none (by simpa using hi)]
end Go.Proofs.Ct
namespace Go.Proofs
open Go.RowKit Go.Shelf Go.Proofs.Ct Go.Maps
set_option maxRecDepth 100000 in
theorem column217_any (w : World) (x : Int) (h : -16 ≤ x ∧ x ≤ 16 ∧ x ≠ 0) : Calls Try.prog 217 #[.int .i64 x] w fun e w' => e = .returned (.int .i64 (col x : Nat)) ∧ w = w' := by
  obtain ⟨h1, h2, h3⟩ := h
  by_cases h : x < 0
  · have HC : Hid (((col x : Nat) : Int) = -2 * x - 1) := Lib.hid (by unfold col; split <;> omega)
    go_enter Try.func217, Try.ntmps217
    go_wp2_with fail
    go_ret
    exact ⟨ret_int HC.out.symm, rfl⟩
  · have HC : Hid (((col x : Nat) : Int) = 2 * x - 2) := Lib.hid (by unfold col; split <;> omega)
    have h4 : 0 < x := by omega
    clear h
    go_enter Try.func217, Try.ntmps217
    go_wp2_with fail
    go_ret
    exact ⟨ret_int HC.out.symm, rfl⟩
set_option maxRecDepth 100000 in
set_option maxHeartbeats 2000000 in
theorem reverse212_any (base : Nat) (w : World) (v : Value) (xs : List Int) (ho : OwnI base w v xs) (hl : xs.length ≤ 1000000) (hbw : base ≤ w.heap.size) :
    Calls Try.prog 212 #[v] w fun e w' => e = .returned (.tuple #[]) ∧ OwnI base w' v xs.reverse ∧ Below base w w' := by
  have HO := Lib.hid ho
  have HBW := Lib.hid hbw
  have hl0 : (xs.length : Int) ≤ 1000000 := by omega
  have hl1 : (0 : Int) ≤ (xs.length : Int) := Int.natCast_nonneg _
  rcases Nat.eq_zero_or_pos xs.length with h0 | h0
  · obtain ⟨A, c0, rfl⟩ := owns_form ho
    have hx : xs = [] := List.length_eq_zero_iff.1 h0
    subst hx
    clear ho
    go_enter Try.func212, Try.ntmps212
    go_wp2_with fail
    go_loopw [2, 3] (fun i j wr => i = .int .i64 0 ∧ j = .int .i64 (-1) ∧ wr = w) (fun i _ _ => 0)
    case atStart => exact ⟨rfl, rfl, rfl⟩
    case round =>
      obtain ⟨rfl, rfl, rfl⟩ := hrel
      go_wp2_with fail
      go_end0
      exact ⟨rfl, HO.out, Below.refl _ _⟩
  · obtain ⟨q, c0, rfl, hqb, -, -, -⟩ := ownI_cell ho h0
    clear ho
    go_enter Try.func212, Try.ntmps212
    go_wp2_with fail
    go_loopw [2, 3] (fun i j wr => ∃ (k : Nat) (J : Int), i = .int .i64 (k : Int) ∧ j = .int .i64 J ∧ J = (xs.length : Int) - 1 - k ∧ 2 * k ≤ xs.length ∧ Hid (OwnI base wr (.slice (some ⟨q, 0, none⟩) xs.length c0) (revTo xs k)) ∧ Hid (Below base w wr)) (fun i _ _ => xs.length - (intOf i).toNat)
    case atStart => exact ⟨0, _, rfl, rfl, by omega, by omega, HO, Lib.hid (Below.refl _ _)⟩
    case round =>
      obtain ⟨k, J, rfl, rfl, hJ, hk, HV, HB⟩ := hrel
      have hk0 : (0 : Int) ≤ (k : Int) := Int.natCast_nonneg _
      by_cases hlt : (k : Int) < J
      · obtain ⟨j, rfl⟩ : ∃ j : Nat, J = (j : Int) := ⟨J.toNat, by omega⟩
        have hjl : j < xs.length := by omega
        have hkl : k < xs.length := by omega
        have hj : j = xs.length - 1 - k := by omega
        have hjI : (j : Int) < (xs.length : Int) := by omega
        have hkI : (k : Int) < (xs.length : Int) := by omega
        have HR : OwnI base wr.drew (.slice (some ⟨q, 0, none⟩) xs.length c0) (revTo xs k) := owns_below HV.out (Below.refl _ _).drew
        have hlr := length_revTo xs k
        have hc1 := ownI_at HR (k := k) (by omega)
        have hc2 := ownI_at HR (k := j) (by omega)
        have hn1 := ownI_set HR (g := q) rfl (k := k) (by omega) ((revTo xs k).getD j 0)
        have hc3 := ownI_at hn1 (k := j) (by rw [List.length_set]; omega)
        have hn2 := ownI_set hn1 (g := q) rfl (k := j) (by rw [List.length_set]; omega) ((revTo xs k).getD k 0)
        have hst := revTo_succ xs k
        rw [← hj] at hst
        rw [← hst] at hn2
        have HN := Lib.hid hn2
        have HBE : Hid (Below base w ((wr.drew.setCell ⟨q, k, none⟩ (.int .i64 ((revTo xs k).getD j 0))).setCell ⟨q, j, none⟩ (.int .i64 ((revTo xs k).getD k 0)))) := Lib.hid ((HB.out.drew.setCell hqb _).setCell hqb _)
        have HCK := Lib.hid hc1.1
        have HFK := Lib.hid hc1.2
        have HCJ := Lib.hid hc2.1
        have HCJ2 := Lib.hid hc3.1
        have HFJ2 := Lib.hid hc3.2
        clear hc1 hc2 hc3 hn1 hn2 hst HR hlr HV
        generalize ((revTo xs k).set k ((revTo xs k).getD j 0)).getD j 0 = z at *
        generalize (revTo xs k).getD j 0 = y at *
        generalize (revTo xs k).getD k 0 = x at *
        go_wp2_with fail
        refine (wpIn_wide (n := 3)).1 ?_
        refine wpIn_region_all (by kernel_rfl) 16 rfl (fun i => if i < 13 then some (14 + i) else if i = 13 then none else if i = 14 then some 27 else none) (lex_of (by kernel_rfl)) (fun ls W => W = bif ls 15 then (wr.drew.setCell ⟨q, k, none⟩ (.int .i64 y)).setCell ⟨q, j, none⟩ (.int .i64 x) else bif ls 13 then wr.drew.setCell ⟨q, k, none⟩ (.int .i64 y) else wr.drew)
          (fun i v _ => v = ([.slice (some ⟨q, 0, none⟩) xs.length c0, .int .i64 (k : Int), .slice (some ⟨q, 0, none⟩) xs.length c0, .int .i64 (j : Int), .slice (some ⟨q, 0, none⟩) xs.length c0, .int .i64 (j : Int), .pointer (some ⟨q, j, none⟩), .int .i64 y, .slice (some ⟨q, 0, none⟩) xs.length c0, .int .i64 (k : Int), .pointer (some ⟨q, k, none⟩), .int .i64 x, .pointer (some ⟨q, k, none⟩), undef, .pointer (some ⟨q, j, none⟩), undef] : List Value).getD i undef) (fun _ _ _ => True) (dm_inj (by kernel_rfl)) (fun _ _ _ _ _ _ _ _ _ h => h) (dm_lt (n := 28) (by kernel_rfl)) rfl ?_ ?_
        · intro ls q o a w2 hq ho hS2 hls hcl hP hpre
          have hcases : q = 0 ∨ q = 1 ∨ q = 2 ∨ q = 3 ∨ q = 4 ∨ q = 5 ∨ q = 6 ∨ q = 7 ∨ q = 8 ∨ q = 9 ∨ q = 10 ∨ q = 11 ∨ q = 12 ∨ q = 13 ∨ q = 14 ∨ q = 15 := by
            have : q < 16 := hq
            omega
          rcases hcases with rfl | rfl | rfl | rfl | rfl | rfl | rfl | rfl | rfl | rfl | rfl | rfl | rfl | rfl | rfl | rfl
          · obtain rfl := Option.some.inj ho
            exact wpOpIn_of rfl rfl (wpW_val (r_move (.tmp 0) rfl (hP.out 0 (dm_out (by kernel_rfl)))) ⟨_, rfl, hS2, trivial, (fun h => by simp at h), rfl⟩)
          · obtain rfl := Option.some.inj ho
            exact wpOpIn_of rfl rfl (wpW_val (r_move (.tmp 2) rfl (hP.out 2 (dm_out (by kernel_rfl)))) ⟨_, rfl, hS2, trivial, (fun h => by simp at h), rfl⟩)
          · obtain rfl := Option.some.inj ho
            exact wpOpIn_of rfl rfl (wpW_val (r_move (.tmp 0) rfl (hP.out 0 (dm_out (by kernel_rfl)))) ⟨_, rfl, hS2, trivial, (fun h => by simp at h), rfl⟩)
          · obtain rfl := Option.some.inj ho
            exact wpOpIn_of rfl rfl (wpW_val (r_move (.tmp 3) rfl (hP.out 3 (dm_out (by kernel_rfl)))) ⟨_, rfl, hS2, trivial, (fun h => by simp at h), rfl⟩)
          · obtain rfl := Option.some.inj ho
            exact wpOpIn_of rfl rfl (wpW_val (r_move (.tmp 0) rfl (hP.out 0 (dm_out (by kernel_rfl)))) ⟨_, rfl, hS2, trivial, (fun h => by simp at h), rfl⟩)
          · obtain rfl := Option.some.inj ho
            exact wpOpIn_of rfl rfl (wpW_val (r_move (.tmp 3) rfl (hP.out 3 (dm_out (by kernel_rfl)))) ⟨_, rfl, hS2, trivial, (fun h => by simp at h), rfl⟩)
          · obtain rfl := Option.some.inj ho
            exact wpOpIn_of rfl rfl (wpW_val (r_idx (.tmp 18) (.tmp 19) _ _ rfl (hpre ⟨4, .data⟩ (by simp) rfl).2 (hpre ⟨5, .data⟩ (by simp) rfl).2 (idx_sl Try.underlying25 size3 q _ c0 j hjl _)) ⟨_, rfl, hS2, trivial, (fun h => by simp at h), rfl⟩)
          · obtain rfl := Option.some.inj ho
            have h15 := not_yet hcl 15 rfl ⟨7, .phase⟩ (by simp) rfl hls
            have h13 := not_yet hcl 13 rfl ⟨7, .phase⟩ (by simp) rfl hls
            have hw := sel3 hS2 h15 h13
            subst hw
            exact wpOpIn_of rfl rfl (wpW_val (r_load1 3 agg3 (.tmp 20) ⟨q, j, none⟩ rfl (hpre ⟨6, .data⟩ (by simp) rfl).2 HCJ.out) ⟨_, rfl, hS2, trivial, (fun h => by simp at h), rfl⟩)
          · obtain rfl := Option.some.inj ho
            exact wpOpIn_of rfl rfl (wpW_val (r_move (.tmp 0) rfl (hP.out 0 (dm_out (by kernel_rfl)))) ⟨_, rfl, hS2, trivial, (fun h => by simp at h), rfl⟩)
          · obtain rfl := Option.some.inj ho
            exact wpOpIn_of rfl rfl (wpW_val (r_move (.tmp 2) rfl (hP.out 2 (dm_out (by kernel_rfl)))) ⟨_, rfl, hS2, trivial, (fun h => by simp at h), rfl⟩)
          · obtain rfl := Option.some.inj ho
            exact wpOpIn_of rfl rfl (wpW_val (r_idx (.tmp 22) (.tmp 23) _ _ rfl (hpre ⟨8, .data⟩ (by simp) rfl).2 (hpre ⟨9, .data⟩ (by simp) rfl).2 (idx_sl Try.underlying25 size3 q _ c0 k hkl _)) ⟨_, rfl, hS2, trivial, (fun h => by simp at h), rfl⟩)
          · obtain rfl := Option.some.inj ho
            have h15 := not_yet hcl 15 rfl ⟨11, .phase⟩ (by simp) rfl hls
            have h13 := not_yet hcl 13 rfl ⟨11, .phase⟩ (by simp) rfl hls
            have hw := sel3 hS2 h15 h13
            subst hw
            exact wpOpIn_of rfl rfl (wpW_val (r_load1 3 agg3 (.tmp 24) ⟨q, k, none⟩ rfl (hpre ⟨10, .data⟩ (by simp) rfl).2 HCK.out) ⟨_, rfl, hS2, trivial, (fun h => by simp at h), rfl⟩)
          · obtain rfl := Option.some.inj ho
            exact wpOpIn_of rfl rfl (wpW_val (r_idx (.tmp 14) (.tmp 15) _ _ rfl (hpre ⟨0, .data⟩ (by simp) rfl).2 (hpre ⟨1, .data⟩ (by simp) rfl).2 (idx_sl Try.underlying25 size3 q _ c0 k hkl _)) ⟨_, rfl, hS2, trivial, (fun h => by simp at h), rfl⟩)
          · obtain rfl := Option.some.inj ho
            have h15 := not_yet hcl 15 rfl ⟨13, .chain⟩ (by simp) rfl hls
            have hw := sel3 hS2 h15 hls
            subst hw
            exact wpOpIn_of rfl rfl (wpW_skip (r_store1 3 (.tmp 26) (.tmp 21) _ _ _ rfl (hpre ⟨12, .data⟩ (by simp) rfl).2 (hpre ⟨7, .data⟩ (by simp) rfl).2 rfl HCK.out HFK.out (st3 _ _ _ HCK.out HFK.out)) ⟨undef, rfl, (by show _ = bif ls 15 then _ else _; rw [h15]; rfl), trivial, fun _ => rfl, rfl⟩)
          · obtain rfl := Option.some.inj ho
            exact wpOpIn_of rfl rfl (wpW_val (r_idx (.tmp 16) (.tmp 17) _ _ rfl (hpre ⟨2, .data⟩ (by simp) rfl).2 (hpre ⟨3, .data⟩ (by simp) rfl).2 (idx_sl Try.underlying25 size3 q _ c0 j hjl _)) ⟨_, rfl, hS2, trivial, (fun h => by simp at h), rfl⟩)
          · obtain rfl := Option.some.inj ho
            have h13 : ls 13 = true := (hpre ⟨13, .chain⟩ (by simp) rfl).1
            rw [hls, h13] at hS2
            change w2 = wr.drew.setCell ⟨q, k, none⟩ (.int .i64 y) at hS2
            subst hS2
            exact wpOpIn_of rfl rfl (wpW_skip (r_store1 3 (.tmp 27) (.tmp 25) _ _ _ rfl (hpre ⟨14, .data⟩ (by simp) rfl).2 (hpre ⟨11, .data⟩ (by simp) rfl).2 rfl HCJ2.out HFJ2.out (st3 _ _ _ HCJ2.out HFJ2.out)) ⟨undef, rfl, rfl, trivial, fun _ => rfl, rfl⟩)
        · intro ls a w2 hall hS2 hP hsl
          have h15 : ls 15 = true := hall 15 (by decide)
          rw [h15] at hS2
          obtain ⟨vs, hvs, hfr⟩ := hP.frame 28 rfl
          clear hsl hP hall h15 hvs HCK HFK HCJ HCJ2 HFJ2
          subst hfr
          subst hS2
          dsimp only
          simp only [List.range, List.range.loop, List.map_cons, List.map_nil, List.any_cons, List.any_nil, Nat.reduceAdd, Nat.reduceBEq, Nat.reduceLT, Nat.reduceEqDiff, Option.some_beq_some, Bool.or_false, if_true, if_false, List.getD_cons_zero, List.getD_cons_succ, cond_true]
          generalize (wr.drew.setCell ⟨q, k, none⟩ (.int .i64 y)).setCell ⟨q, j, none⟩ (.int .i64 x) = w9 at *
          go_wp2_with fail
          go_roundw
          case rel => exact ⟨k + 1, by go_num, by go_num, by omega, HN⟩
          case measure => simp [intOf]; omega
      · have HE := Lib.hid (revTo_all xs (k := k) hk (by omega))
        go_wp2_with fail
        go_end0
        exact ⟨rfl, by rw [← HE.out]; exact HV.out, HB.out⟩
def InvPost (xs : List Int) (w : World) (e : Ending) (w' : World) : Prop := ∃ A c, e = .returned (.slice A xs.length c) ∧ OwnI w.heap.size w' (.slice A xs.length c) (Ct.inv xs) ∧ Below w.heap.size w w'
set_option maxRecDepth 100000 in
set_option maxHeartbeats 2000000 in
theorem inverse189_any (w : World) (v : Value) (xs : List Int) (h : IntsAt w v xs) (hl : xs.length ≤ 1000000) (hm : ∀ x ∈ xs, Mild x) :
    Calls Try.prog 189 #[v] w (InvPost xs w) := by
  have HC := Lib.hid (clone71_any w v xs h hl)
  have HM : Hid (∀ k, Mild ((xs.reverse).getD k 0)) := Lib.hid fun k => by
    rcases Nat.lt_or_ge k xs.reverse.length with h1 | h1
    · rw [List.getD_eq_getElem?_getD, List.getElem?_eq_getElem h1]
      exact hm _ (List.mem_reverse.1 (List.getElem_mem h1))
    · rw [List.getD_eq_getElem?_getD, List.getElem?_eq_none h1]
      exact ⟨by show (_ : Int) ≤ 0; omega, by show (0 : Int) ≤ _; omega⟩
  obtain ⟨Av, cv, rfl, hcap, hmax, -⟩ := h.open_
  have hl0 : (xs.length : Int) ≤ 1000000 := by omega
  have hl1 : (0 : Int) ≤ (xs.length : Int) := Int.natCast_nonneg _
  have hrl : xs.reverse.length = xs.length := List.length_reverse
  clear h hm
  unfold InvPost
  go_enter Try.func189, Try.ntmps189
  go_wp2_with fail
  refine HC.out.mono ?_
  rintro e w1 ⟨A, c0, rfl, ho, hb⟩
  have HB1 := Lib.hid hb
  have HRV := Lib.hid (reverse212_any w.heap.size w1 _ xs ho hl hb.size)
  clear ho hb
  go_wp2_with fail
  refine HRV.out.mono ?_
  rintro e w2 ⟨rfl, ho, hb⟩
  have HO2 := Lib.hid ho
  have HB2 := Lib.hid (HB1.out.trans hb)
  clear ho hb HRV HC HB1
  have HE : Hid (negTo xs.reverse xs.length = Ct.inv xs) := Lib.hid (by rw [← hrl]; exact negTo_all _)
  generalize xs.reverse = ys at *
  go_wp2_with fail
  go_loopw [11] (fun i wr => ∃ k : Nat, i = .int .i64 (k : Int) ∧ k ≤ xs.length ∧ Hid (OwnI w.heap.size wr (.slice A xs.length c0) (negTo ys k)) ∧ Hid (Below w.heap.size w wr)) (fun i _ => xs.length - (intOf i).toNat)
  case atStart => exact ⟨0, rfl, Nat.zero_le _, HO2, HB2⟩
  case round =>
    obtain ⟨k, rfl, hk, HV, HB⟩ := hrel
    have hk0 : (0 : Int) ≤ (k : Int) := Int.natCast_nonneg _
    by_cases hlt : k < xs.length
    · have hkI : (k : Int) < (xs.length : Int) := by omega
      have hln := length_negTo ys k
      obtain ⟨q, c1, e1, hqb, -, hcc, hff⟩ := ownI_cell HV.out (by omega)
      injection e1 with e1 e2 e3
      subst e1
      have hck := hcc k (by omega)
      have hfk := hff k
      have hmk := HM.out k
      have hgd : (negTo ys k).getD k 0 = ys.getD k 0 := by rw [negTo_getD ys k (by omega), if_neg (Nat.lt_irrefl k)]
      have hn2 := ownI_set HV.out (g := q) rfl (k := k) (by omega) (-((negTo ys k).getD k 0))
      rw [← negTo_succ] at hn2
      rw [hgd] at hn2 hck
      have HN := Lib.hid hn2
      have HBE := Lib.hid (HB.out.setCell (p := ⟨q, k, none⟩) hqb (.int .i64 (-(ys.getD k 0))))
      unfold Mild at hmk
      clear hn2 hcc hff hgd HV e2 e3
      generalize ys.getD k 0 = x at *
      have hx := hmk.1
      have hx2 := hmk.2
      clear hmk
      go_wp2_with fail
      go_roundw
      case rel => exact ⟨k + 1, by go_num, by omega, HN, HBE⟩
      case measure => simp [intOf]; omega
    · obtain rfl : k = xs.length := by omega
      go_wp2_with fail
      go_ret
      exact ⟨A, c0, rfl, by rw [← HE.out]; exact HV.out, HB.out⟩
end Go.Proofs
namespace Go.Proofs
open Go.RowKit Go.Shelf Go.Proofs.Ct Go.Maps
set_option maxRecDepth 100000 in
set_option maxHeartbeats 4000000 in
theorem walk214_any (K : Nat → Prop) (T : TypeId) (ex : List Value) (bl cs : Nat → Nat) (g base b wd lim r : Nat) (hg : g ≤ 16) (w : World) (f : FS) (u : Value) (ws : W) (hI : Inv g f.s) (hS : StFB K T ex bl cs base b wd lim w f) (hn : f.s.t.length ≤ 1000000) (hu : IntsAt w u ws) (hl : LOk g ws) (hr : r < f.s.t.length) :
    Calls Try.prog 214 #[.pointer (some ⟨b, 0, none⟩), .int .i64 (r : Int), u] w fun e w' => e = .returned (.tuple #[.int .i64 (leadTo f.s.t r ws (fwd f.s.t r ws)), .int .i64 ((fwd f.s.t r ws : Nat) : Int)]) ∧ ∃ q, w' = w.drewN q := by
  obtain ⟨Au, cu, rfl, hu1, hu2, hu3⟩ := hu.open_
  have HU := Lib.hid hu3
  have HL := Lib.hid hl
  have HAT : Hid (∀ r c, r < f.s.t.length → c < 2 * g → ∃ gr cr, w.cell? ⟨b, 2, none⟩ = some (.slice (some ⟨gr, 0, none⟩) f.s.t.length cr) ∧ w.cell? ⟨gr, r, none⟩ = some (.slice (some ⟨bl r, 0, none⟩) (2 * g) (cs r)) ∧ w.cell? ⟨bl r, c, none⟩ = some (.int .i64 (f.s.t.at r c))) := Lib.hid fun r c h1 h2 => hS.at_ hI h1 h2
  have HCO : Hid (∀ (x : Int) n, -(g : Int) ≤ x ∧ x ≤ g ∧ x ≠ 0 → Calls Try.prog 217 #[.int .i64 x] (w.drewN n) fun e w' => e = .returned (.int .i64 (col x : Nat)) ∧ w.drewN n = w') := Lib.hid fun x n h => column217_any _ _ (by omega)
  have hr0 : (0 : Int) ≤ (r : Int) := Int.natCast_nonneg _
  have hn0 : (f.s.t.length : Int) ≤ 1000000 := by omega
  have hws0 : (0 : Int) ≤ (ws.length : Int) := Int.natCast_nonneg _
  have hws1 : (ws.length : Int) ≤ 9223372036854775807 := by omega
  have HRB := Lib.hid hI.bd
  clear hS hu hu3 hl hI
  go_enter Try.func214, Try.ntmps214
  go_wp2_with fail
  go_loopw [1, 13] (fun ff i wr => ∃ k z : Nat, i = .int .i64 k ∧ k ≤ ws.length ∧ ff = .int .i64 (z : Int) ∧ z < f.s.t.length ∧ Hid ((z : Int) = leadTo f.s.t r ws k) ∧ Hid (∀ j, j < k → 0 ≤ leadTo f.s.t r ws (j + 1)) ∧ ∃ q, wr = w.drewN q) (fun _ i _ => ws.length - (intOf i).toNat)
  case atStart => exact ⟨0, r, rfl, by omega, rfl, hr, Lib.hid rfl, Lib.hid fun j hj => absurd hj (by omega), 0, rfl⟩
  case round =>
    obtain ⟨k, z, rfl, hk, rfl, hz, HZ, HJ, q, rfl⟩ := hrel
    have hk0 : (0 : Int) ≤ (k : Int) := Int.natCast_nonneg _
    have hz0 : (0 : Int) ≤ (z : Int) := Int.natCast_nonneg _
    have hzI : (z : Int) < (f.s.t.length : Int) := by omega
    by_cases hlt : k < ws.length
    · have hlt' : (k : Int) < (ws.length : Int) := by omega
      obtain ⟨bw, ow, rfl, hcc⟩ := HU.out (by omega)
      have hck := hcc k hlt
      have hx := HL.out.getD hlt
      have hcx := HL.out.col hlt
      obtain ⟨gr, cr, a1, a2, a3⟩ := HAT.out z (col (ws.getD k 0)) hz hcx
      have HNX : Hid (leadTo f.s.t r ws (k + 1) = f.s.t.at z (col (ws.getD k 0))) := Lib.hid (by
        rw [leadTo_succ, ← HZ.out, if_neg (by omega), Int.toNat_natCast])
      have hbd := HRB.out z hz _ hcx
      have HC1 : Hid (∀ n, Calls Try.prog 217 #[.int .i64 (ws.getD k 0)] (w.drewN n) fun e w' => e = .returned (.int .i64 (col (ws.getD k 0) : Nat)) ∧ w.drewN n = w') := Lib.hid fun n => HCO.out _ n hx
      have hc0 : (0 : Int) ≤ ((col (ws.getD k 0) : Nat) : Int) := Int.natCast_nonneg _
      have hc1 : ((col (ws.getD k 0) : Nat) : Int) < ((2 * g : Nat) : Int) := by omega
      have hxr : -16 ≤ ws.getD k 0 ∧ ws.getD k 0 ≤ 16 := by omega
      clear hcc hx
      by_cases hy : f.s.t.at z (col (ws.getD k 0)) < 0
      · have HK : Hid (leadTo f.s.t r ws (k + 1) < 0) := Lib.hid (by rw [HNX.out]; exact hy)
        have HF : Hid (fwd f.s.t r ws = k) := Lib.hid (fwd_eq (by omega) (.inr HK.out) HJ.out)
        obtain ⟨hy1, hy2⟩ := hbd
        generalize f.s.t.at z (col (ws.getD k 0)) = y at *
        generalize col (ws.getD k 0) = cx at *
        generalize ws.getD k 0 = x at *
        generalize 2 * g = m at *
        go_wp2_with fail
        go_quiet ((go_at_call 217; exact quiet_add_left (HC1.out _)))
        go_wp2_with fail
        go_ret2
        exact ⟨ret_pair (by rw [HF.out]; exact HZ.out) (by rw [HF.out]), (by first | exact ⟨_, rfl⟩ | exact ex_drewN)⟩
      · obtain ⟨y, hye⟩ : ∃ y : Nat, f.s.t.at z (col (ws.getD k 0)) = (y : Int) := ⟨(f.s.t.at z (col (ws.getD k 0))).toNat, by omega⟩
        rw [hye] at HNX a3 hbd hy
        have hy2 : y < f.s.t.length := by omega
        have hy0 : (0 : Int) ≤ (y : Int) := Int.natCast_nonneg _
        have HJ2 : Hid (∀ j, j < k + 1 → 0 ≤ leadTo f.s.t r ws (j + 1)) := Lib.hid fun j hj => by
          rcases Nat.lt_or_ge j k with h | h
          · exact HJ.out j h
          · obtain rfl : j = k := by omega
            rw [HNX.out]; exact hy0
        clear hbd hye
        generalize col (ws.getD k 0) = cx at *
        generalize ws.getD k 0 = x at *
        generalize 2 * g = m at *
        go_wp2_with fail
        go_quiet ((go_at_call 217; exact quiet_add_left (HC1.out _)))
        go_wp2_with fail
        go_roundw
        case rel => exact ⟨k + 1, y, by go_num, by omega, rfl, hy2, Lib.hid HNX.out.symm, HJ2, (by first | exact ⟨_, rfl⟩ | exact ex_drewN)⟩
        case measure => simp [intOf]; omega
    · obtain rfl : k = ws.length := by omega
      have HF : Hid (fwd f.s.t r ws = ws.length) := Lib.hid (fwd_eq (Nat.le_refl _) (.inl rfl) HJ.out)
      go_wp2_with fail
      go_ret2
      exact ⟨ret_pair (by rw [HF.out]; exact HZ.out) (by rw [HF.out]), (by first | exact ⟨_, rfl⟩ | exact ex_drewN)⟩
end Go.Proofs
namespace Go.Proofs
open Go.RowKit Go.Shelf Go.Proofs.Ct Go.Maps
def usB (ops : Array Oper) (N : Nat) (us : Nat → Nat → Bool) : Bool := (List.range N).all fun i => (List.range N).all fun j => !us i j || (match ops[i]? with | some o => o.after.toList.any fun e => decide (e.on = j) && Region.binds .any e | none => false)
theorem us_of {ops : Array Oper} {N : Nat} {us : Nat → Nat → Bool} (h : usB ops N us = true) : ∀ i j, i < N → j < N → us i j = true → ∀ o, ops[i]? = some o → ∃ e ∈ o.after.toList, e.on = j ∧ Region.binds .any e = true := fun i j hi hj hu o ho => by
  unfold usB at h
  rw [List.all_eq_true] at h
  have h1 := h i (by simpa using hi)
  rw [List.all_eq_true] at h1
  have h2 := h1 j (by simpa using hj)
  rw [hu, ho] at h2
  simp only [Bool.not_true, Bool.false_or, List.any_eq_true, Bool.and_eq_true, decide_eq_true_eq] at h2
  obtain ⟨e, he, h3, h4⟩ := h2
  exact ⟨e, he, h3, h4⟩
def uqB (N : Nat) (wr : Nat → Bool) (us : Nat → Nat → Bool) : Bool := (List.range N).all fun i => (List.range N).all fun i' => (List.range N).all fun j => !wr j || !us i j || !us i' j || i == i'
theorem uq_of {N : Nat} {wr : Nat → Bool} {us : Nat → Nat → Bool} (h : uqB N wr us = true) : ∀ i i' j, i < N → i' < N → j < N → wr j = true → us i j = true → us i' j = true → i = i' := fun i i' j hi hi' hj h1 h2 h3 => by
  unfold uqB at h
  rw [List.all_eq_true] at h
  have k1 := h i (by simpa using hi)
  rw [List.all_eq_true] at k1
  have k2 := k1 i' (by simpa using hi')
  rw [List.all_eq_true] at k2
  have k3 := k2 j (by simpa using hj)
  rw [h1, h2, h3] at k3
  simpa using k3
structure Step (N : Nat) (wr : Nat → Bool) (us : Nat → Nat → Bool) (O : Nat → Nat → Prop) (i : Nat) (O' : Nat → Prop) (w w' : World) : Prop where
  size : w.heap.size ≤ w'.heap.size
  keep : ∀ k, k < w.heap.size → (∀ j, j < N → us i j = true → wr j = true → ¬ O j k) → w'.heap[k]? = w.heap[k]?
  foot : ∀ k, O' k → k < w'.heap.size ∧ (w.heap.size ≤ k ∨ ∃ j, j < N ∧ us i j = true ∧ O j k ∧ (wr i = true → wr j = true))
section
variable {F : Fence} {n : Nat} {P : Program} {ops : Array Oper} {Q : Exit → Act → World → Prop}
end
end Go.Proofs
namespace Go.Proofs
open Go.RowKit Go.Shelf Go.Proofs.Ct Go.Maps
def TabS (F : Nat → Prop) (w : World) (u : Value) (ys : List (List Int)) : Prop := ∃ vs, (∀ w', Ag F w w' → Sl w' u vs) ∧ RowsF F w vs ys
def RdT (F : Nat → Prop) (w : World) (u : Value) (ys : List (List Int)) : Prop := ∀ w', Ag F w w' → Tab w' u ys
section
variable {F G : Nat → Prop} {w w' : World} {u : Value} {ys : List (List Int)}
theorem TabS.keep (h : TabS F w u ys) (ha : Ag F w w') : TabS F w' u ys := by
  obtain ⟨vs, h1, h2⟩ := h
  exact ⟨vs, fun w'' h' => h1 w'' (ha.trans h'), h2.keep ha fun _ h => h⟩
theorem TabS.mono (h : TabS F w u ys) (hg : ∀ k, F k → G k) : TabS G w u ys := by
  obtain ⟨vs, h1, h2⟩ := h
  exact ⟨vs, fun w' h' => h1 w' fun k hk => h' k (hg k hk), h2.keep (Ag.refl _ _) hg⟩
theorem TabS.tab (h : TabS F w u ys) : Tab w u ys := by
  obtain ⟨vs, h1, h2⟩ := h
  exact ⟨vs, h1 w (Ag.refl _ _), h2.1, fun i hi => let ⟨x, hx, hr⟩ := h2.2 i hi; ⟨x, hx, hr.at_⟩⟩
theorem RdT.keep (h : RdT F w u ys) (ha : Ag F w w') : RdT F w' u ys := fun w'' h' => h w'' (ha.trans h')
end
inductive FP where
  | any | eq (v : Value) | ints (l : List Int) | tab (l : List (List Int)) | rd (l : List (List Int)) | own (l : List Int) | ownT (l : List (List Int)) | box (e : TypeId) (cs : Array Value) | enum (t : List (List Int)) (a b c : Int) | tup (l : List Int) (e : Int) | tupT (l : List (List Int)) (e : Int)
def Fb (base : Nat) (O : Nat → Prop) : Nat → Prop := fun k => k < base ∨ O k
def FP.holds (base : Nat) : FP → Value → (Nat → Prop) → World → Prop
  | .any, _, _, _ => True
  | .eq u, v, _, _ => v = u
  | .ints l, v, O, w => ∃ A c, v = .slice A l.length c ∧ IntsF (Fb base O) w (.slice A l.length c) l
  | .tab l, v, O, w => ∃ A c, v = .slice A l.length c ∧ TabS (Fb base O) w (.slice A l.length c) l
  | .rd l, v, O, w => ∃ A c, v = .slice A l.length c ∧ RdT (Fb base O) w (.slice A l.length c) l
  | .own l, v, O, w => ∃ A c, v = .slice A l.length c ∧ OwnI base w (.slice A l.length c) l ∧ ∀ r, (Value.slice A l.length c).ownBlock = some r → O r
  | .ownT l, v, O, w => ∃ A c F, v = .slice A l.length c ∧ OwnT 25 base F w (.slice A l.length c) l ∧ (∀ k, F k → Fb base O k ∧ k < w.heap.size ∧ (Value.slice A l.length c).ownBlock ≠ some k) ∧ ∀ r, (Value.slice A l.length c).ownBlock = some r → O r
  | .box e cs, v, O, w => ∃ q, v = .pointer (some ⟨q, 0, none⟩) ∧ O q ∧ w.heap[q]? = some (.cells cs e (0, 0))
  | .enum t a b c, v, O, w => ∃ A n, v = .tuple #[.slice A t.length n, .agg #[.int .i64 a, .int .i64 b, .int .i64 0], .int .i64 c] ∧ RdT (Fb base O) w (.slice A t.length n) t
  | .tup l e, v, O, w => ∃ A n, v = .tuple #[.slice A l.length n, .int .i64 e] ∧ IntsF (Fb base O) w (.slice A l.length n) l
  | .tupT l e, v, O, w => ∃ A n, v = .tuple #[.slice A l.length n, .int .i64 e] ∧ RdT (Fb base O) w (.slice A l.length n) l
section
variable {base : Nat} {O O' : Nat → Prop} {W0 w w' : World} {v : Value}
theorem ag_fb (_hb : W0.heap.size = base) (h1 : Below base W0 w) (h2 : Below base W0 w') (h : ∀ k, O k → w'.heap[k]? = w.heap[k]?) : Ag (Fb base O) w w' := fun k hk => by
  rcases hk with hk | hk
  · rw [h1.block k (by omega), h2.block k (by omega)]
  · exact h k hk
theorem FP.keep {p : FP} (hb : W0.heap.size = base) (h1 : Below base W0 w) (h2 : Below base W0 w') (hs : w.heap.size ≤ w'.heap.size) (h : ∀ k, O k → w'.heap[k]? = w.heap[k]?) : p.holds base v O w → p.holds base v O w' := by
  have ha := ag_fb hb h1 h2 h
  cases p with
  | any => exact id
  | eq u => exact id
  | ints l => exact fun ⟨A, c, e, k⟩ => ⟨A, c, e, k.keep ha⟩
  | tab l => exact fun ⟨A, c, e, k⟩ => ⟨A, c, e, k.keep ha⟩
  | rd l => exact fun ⟨A, c, e, k⟩ => ⟨A, c, e, k.keep ha⟩
  | own l => exact fun ⟨A, c, e, k, k2⟩ => ⟨A, c, e, owns_keep k fun r hr => h r (k2 r hr), k2⟩
  | ownT l => exact fun ⟨A, c, F, e, k, k2, k3⟩ => ⟨A, c, F, e, k.keep (fun r hr => h r (k3 r hr)) (fun x hx => ha x (k2 x hx).1) (fun _ h => h), fun x hx => ⟨(k2 x hx).1, Nat.lt_of_lt_of_le (k2 x hx).2.1 hs, (k2 x hx).2.2⟩, k3⟩
  | box e cs => exact fun ⟨q, e, k, k2⟩ => ⟨q, e, k, (h q k).trans k2⟩
  | enum t a b c => exact fun ⟨A, n, e, k⟩ => ⟨A, n, e, k.keep ha⟩
  | tup l x => exact fun ⟨A, n, e, k⟩ => ⟨A, n, e, k.keep ha⟩
  | tupT l x => exact fun ⟨A, n, e, k⟩ => ⟨A, n, e, k.keep ha⟩
end
def Mx (N : Nat) (wr : Nat → Bool) (us : Nat → Nat → Bool) (O : Nat → Nat → Prop) (i : Nat) (w w' : World) : Nat → Prop := fun k => k < w'.heap.size ∧ (w.heap.size ≤ k ∨ ∃ j, j < N ∧ us i j = true ∧ O j k ∧ (wr i = true → wr j = true))
section
variable {N : Nat} {wr : Nat → Bool} {us : Nat → Nat → Bool} {O : Nat → Nat → Prop} {i : Nat} {w w' : World}
theorem Step.below (h : Below w.heap.size w w') : Step N wr us O i (Mx N wr us O i w w') w w' := ⟨h.size, fun k hk _ => h.block k hk, fun _ h => h⟩
theorem Step.same : Step N wr us O i (Mx N wr us O i w w) w w := Step.below (Below.refl _ _)
theorem Step.grown {row : Option Nat} (h : w.grownBy w' row) (hr : ∀ r, row = some r → ∃ j, j < N ∧ us i j = true ∧ wr j = true ∧ O j r) : Step N wr us O i (Mx N wr us O i w w') w w' := ⟨h.size, fun k hk hn => h.block k hk fun e => by
  obtain ⟨j, h1, h2, h3, h4⟩ := hr k e.symm
  exact hn j h1 h2 h3 h4, fun _ h => h⟩
theorem Mx.fresh {k : Nat} (h1 : w.heap.size ≤ k) (h2 : k < w'.heap.size) : Mx N wr us O i w w' k := ⟨h2, .inl h1⟩
theorem Mx.of {j k : Nat} (hj : j < N) (hu : us i j = true) (hw : wr i = true → wr j = true) (hO : O j k) (hk : k < w'.heap.size) : Mx N wr us O i w w' k := ⟨hk, .inr ⟨j, hj, hu, hO, hw⟩⟩
end
theorem grown_below {w w' W0 : World} {base : Nat} {row : Option Nat} (hb : W0.heap.size = base) (h0 : Below base W0 w) (h : w.grownBy w' row) (hr : ∀ r, row = some r → base ≤ r) : Below base W0 w' :=
  ⟨h.os.trans h0.os, h.tape.trans h0.tape, h.output.trans h0.output, Nat.le_trans h0.size h.size, fun k hk => (h.block k (by have := h0.size; omega) fun e => by have := hr k e.symm; omega).trans (h0.block k hk)⟩
section
variable {o : Oper} {a : Act} {w w' : World} {n : Nat} {v : Value}
theorem r_extract (k : Nat) (x : Operand) (vs : Array Value) (ho : o.op = .extract x k) (hx : a.eval x = .tuple vs) (hk : vs[k]? = some v) : (execOp a.eval o).run Try.prog w = .ok (.value v) w := by
  unfold execOp
  simp only [ho, hx]
  simp [go_sem, hk]
end
end Go.Proofs
namespace Go.Proofs
open Go.RowKit Go.Shelf Go.Proofs.Ct Go.Maps
theorem ints_sliced {w : World} {A : Option Addr} {c k h : Nat} {l : List Int} (hI : IntsAt w (.slice A l.length c) l) (hk : k ≤ h) (hh : h ≤ l.length) : ∃ A', sliced A k h c 1 = .slice A' (h - k) (c - k) ∧ IntsAt w (.slice A' (h - k) (c - k)) ((l.take h).drop k) := by
  obtain ⟨⟨A0, n, cap, e, h1, h2, h3, h4⟩, hf⟩ := hI
  obtain ⟨rfl, rfl, rfl⟩ := Value.slice.inj e
  refine ⟨_, rfl, ⟨_, _, _, rfl, by simp [ints]; omega, by omega, by omega, fun hp => ?_⟩, fun y hy => hf y (List.mem_of_mem_take (List.mem_of_mem_drop hy))⟩
  obtain ⟨b, off, rfl, hr⟩ := h4 (by omega)
  refine ⟨b, off + k, ?_, fun j v hj => ?_⟩
  · rw [if_neg (by omega), Nat.mul_one]
    exact congrArg some (Addr.add_mid b off k)
  · have hj' : (ints l)[k + j]? = some v := by
      simp only [ints, List.getElem?_map, List.getElem?_drop, List.getElem?_take] at hj ⊢
      split at hj
      · exact hj
      · simp at hj
    have := hr (k + j) v hj'
    rwa [show off + k + j = off + (k + j) by omega]
end Go.Proofs
namespace Go.Proofs
open Go.RowKit Go.Shelf Go.Proofs.Ct Go.Maps
structure ImgS (w0 wr : World) (B g : Nat) (f : Nat → List Int) (vs : Nat → Value) : Prop where
  below : Below w0.heap.size w0 wr
  ge : w0.heap.size ≤ B
  blk : ∃ C, wr.heap[B]? = some (.cells C 24 (0, 0)) ∧ ∀ c, c < g → C[c]? = some (vs c)
  row : ∀ c, c < g → OwnI w0.heap.size wr (vs c) (f c)
  ap : ∀ c d, c < g → d < g → c ≠ d → ∀ r, (vs c).ownBlock = some r → (vs d).ownBlock ≠ some r
section
variable {w0 wr : World} {B g : Nat} {f : Nat → List Int} {vs : Nat → Value}
end
end Go.Proofs
namespace Go.Proofs
open Go.RowKit Go.Shelf Go.Proofs.Ct Go.Maps
theorem lit1 (w : World) (x : List Int) (hx : Fits x) {n : Nat} (hn : x.length = n) (hm : n ≤ 1000) {e : TypeId} :
    Tab ((w.alloc (.cells (ints x).toArray 3)).alloc (.cells #[.slice (some ⟨w.heap.size, 0, none⟩) n n] e)) (.slice (some ⟨w.heap.size + 1, 0, none⟩) 1 1) [x] := by
  have h1 := ints_lit w x hx n hn hm
  have hb : Below (w.alloc (.cells (ints x).toArray 3)).heap.size (w.alloc (.cells (ints x).toArray 3)) ((w.alloc (.cells (ints x).toArray 3)).alloc (.cells #[.slice (some ⟨w.heap.size, 0, none⟩) n n] e)) := (Below.refl _ _).alloc (Nat.le_refl _) _
  have h2 := heap_alloc_new (w.alloc (.cells (ints x).toArray 3)) (.cells #[.slice (some ⟨w.heap.size, 0, none⟩) n n] e)
  rw [World.size_alloc] at h2
  exact tab_blk (us := [.slice (some ⟨w.heap.size, 0, none⟩) n n]) h2 rfl rfl (by simp) fun i hi => by
    have : i = 0 := by simpa using hi
    subst this
    exact IntsAt.below h1 hb
theorem lit3 (w : World) (x y z : List Int) (hx : Fits x) (hy : Fits y) (hz : Fits z) {n m l : Nat} (hn : x.length = n) (hm : y.length = m) (hl : z.length = l) (hs : n ≤ 1000 ∧ m ≤ 1000 ∧ l ≤ 1000) {e : TypeId} :
    Tab ((((w.alloc (.cells (ints x).toArray 3)).alloc (.cells (ints y).toArray 3)).alloc (.cells (ints z).toArray 3)).alloc (.cells #[.slice (some ⟨w.heap.size, 0, none⟩) n n, .slice (some ⟨w.heap.size + 1, 0, none⟩) m m, .slice (some ⟨w.heap.size + 1 + 1, 0, none⟩) l l] e)) (.slice (some ⟨w.heap.size + 1 + 1 + 1, 0, none⟩) 3 3) [x, y, z] := by
  have h1 := ints_lit w x hx n hn hs.1
  have h2 := ints_lit (w.alloc (.cells (ints x).toArray 3)) y hy m hm hs.2.1
  have h3 := ints_lit ((w.alloc (.cells (ints x).toArray 3)).alloc (.cells (ints y).toArray 3)) z hz l hl hs.2.2
  have h4 := tab_three _ _ _ _ _ _ _ (h1.below (((Below.refl _ _).alloc (Nat.le_refl _) _).alloc (by simp) _)) (h2.below ((Below.refl _ _).alloc (Nat.le_refl _) _)) h3 (e := e)
  simp only [World.size_alloc] at h4
  exact h4
end Go.Proofs
namespace Go.Proofs
open Go.RowKit Go.Shelf Go.Proofs.Ct Go.Maps
def IntsB (base : Nat) (w : World) (u : Value) (x : List Int) : Prop := ∀ w' : World, (∀ k, base ≤ k → k < w.heap.size → w'.heap[k]? = w.heap[k]?) → IntsAt w' u x
section
variable {base : Nat} {w w' : World} {u : Value} {x : List Int}
end
structure KS (w W : World) : Prop where
  below : Below w.heap.size w W
  box : W.heap[w.heap.size]? = some (.cells zero40 40 (0, 0))
end Go.Proofs
namespace Go.Proofs.Ct
def gt (a k : Nat) : Nat := Nat.mod (Nat.shiftRight a (Nat.mul 10 k)) 1024
def pt (a k v : Nat) : Nat := Nat.add a (Nat.shiftLeft v (Nat.mul 10 k))
structure Cs where
  n : Nat
  E : Nat
  A : Nat
def rpC (A : Nat) : Nat → Nat → Nat
  | 0, x => x
  | k + 1, x => match gt A x with
    | 0 => x
    | y + 1 => rpC A k y
def lkC (s : Cs) (x c : Nat) : Nat := match gt s.E (Nat.add (Nat.mul 8 x) c) with
  | 0 => 0
  | y + 1 => Nat.succ (rpC s.A 20 y)
def wkC (s : Cs) : List Nat → Nat → Nat
  | [], x => Nat.succ x
  | c :: w, x => match lkC s x c with
    | 0 => 0
    | y + 1 => wkC s w y
def alC (s : Cs) (a b : Nat) : Cs := cond (Nat.beq (gt s.A b) 0 && Nat.blt a s.n && Nat.blt b s.n) ⟨s.n, s.E, pt s.A b (Nat.succ a)⟩ s
def algC (s : Cs) (a b : Nat) : Cs := cond (Nat.beq a b) s (cond (Nat.blt a b) (alC s a b) (alC s b a))
def haC (s : Cs) (u c v : Nat) : Cs := match lkC s u c with
  | y + 1 => algC s y v
  | 0 => ⟨s.n, pt s.E (Nat.add (Nat.mul 8 u) c) (Nat.succ v), s.A⟩
def lnC (s : Cs) (u c v : Nat) : Cs := haC (haC s u c v) v (flp c) u
def dfC (m : Nat) (s : Cs) (r c : Nat) : Cs := match lkC s r c with
  | 0 => cond (Nat.blt r s.n && Nat.blt c m && Nat.blt s.n 1000) (lnC ⟨Nat.succ s.n, s.E, s.A⟩ r c s.n) s
  | _ + 1 => s
def bkC (w : List Nat) : List Nat := (w.map flp).reverse
def reC (rs : List (List Nat)) (s : Cs) (r k i : Nat) : Cs := cond (Nat.blt r s.n && Nat.blt k rs.length && Nat.blt i (rs.getD k []).length)
  (match wkC s ((rs.getD k []).take i) r with
  | 0 => s
  | u + 1 => match wkC s (bkC ((rs.getD k []).drop (i + 1))) r with
    | 0 => s
    | v + 1 => lnC s u ((rs.getD k []).getD i 0) v) s
def cpC (s : Cs) (x c : Nat) : Cs := match gt s.E (Nat.add (Nat.mul 8 x) c) with
  | 0 => s
  | d + 1 => cond (Nat.blt c 8) (lnC s (rpC s.A 20 x) c (rpC s.A 20 d)) s
def stC (m : Nat) (rs : List (List Nat)) (i : Nat) (s : Cs) : Cs := match Nat.mod i 4 with
  | 0 => dfC m s (Nat.div i 32) (Nat.mod (Nat.div i 4) 8)
  | 1 => reC rs s (Nat.div i 1024) (Nat.mod (Nat.div i 128) 8) (Nat.mod (Nat.div i 4) 32)
  | _ => cpC s (Nat.div i 32) (Nat.mod (Nat.div i 4) 8)
def runC (m : Nat) (rs : List (List Nat)) : Nat → Nat → Cs → Cs
  | 0, _, s => s
  | k + 1, log, s => runC m rs k (Nat.shiftRight log 20) (stC m rs (Nat.mod log 1048576) s)
structure OkC (g : Nat) {α : Type} (D : α → Prop) (act : α → Nat → α) (p0 : α) (s : Cs) (f : Nat → α) : Prop where
  n1 : 1 ≤ s.n
  n2 : s.n ≤ 1000
  f0 : f 0 = p0
  dom : ∀ x, x < s.n → D (f x)
  e : ∀ x c y, c < 8 → gt s.E (8 * x + c) = y + 1 → x < s.n ∧ y < s.n ∧ c < 2 * g ∧ act (f x) c = f y
  a : ∀ x y, gt s.A x = y + 1 → x < s.n ∧ y < s.n ∧ f x = f y
section
variable {g : Nat} {rels : List W} {α : Type} {D : α → Prop} {act : α → Nat → α} {p0 : α} {s : Cs} {f : Nat → α}
end
def Reg (g : Nat) (rels : List W) (n : Nat) : Prop := ∃ act : Nat → Nat → Nat, 1 ≤ n ∧ n ≤ 1000 ∧ Mdl g rels (fun x => x < n) act ∧ (∀ i, 0 < i → i < n → ∃ p c, p < i ∧ c < 2 * g ∧ act p c = i) ∧
  ∀ {α : Type} {D : α → Prop} {act' : α → Nat → α} {p0 : α}, Mdl g rels D act' → D p0 → ∃ φ : Nat → α, φ 0 = p0 ∧ (∀ x, x < n → D (φ x)) ∧ ∀ x c, x < n → c < 2 * g → φ (act x c) = act' (φ x) c
end Go.Proofs.Ct
namespace Go.Proofs
open Go.RowKit Go.Shelf Go.Proofs.Ct Go.Maps
structure Wds (g : Nat) (l : List W) (n m : Nat) : Prop where
  len : l.length ≤ n
  short : ∀ j, (l.getD j []).length ≤ m
  ok : ∀ j, j < l.length → LOk g (l.getD j [])
section
variable {g n m n' m' lim : Nat} {rels sub : List W}
end
end Go.Proofs
namespace Go.Proofs
open Go.RowKit Go.Shelf Go.Proofs.Ct Go.Maps
theorem eql49g (a b c : Int) (w : World) : (binOp .eql 49 (.agg #[.int .i64 a, .int .i64 b, .int .i64 c]) (.agg #[.int .i64 a, .int .i64 b, .int .i64 c])).run Try.prog w = .ok (.bool true) w := by
  simp [go_sem]
end Go.Proofs
namespace Go.Proofs
open Go.RowKit Go.Shelf Go.Proofs.Ct Go.Maps
section
variable {o : Oper} {a : Act} {w w' : World} {n : Nat} {v : Value} {ops : Array Oper}
theorem r_call1 {f : FuncId} (x : Operand) (u : Value) (T : Array TypeId) (ho : o.op = .call { callee := .value (.func f), args := #[x], argTypes := T }) (hx : a.eval x = u)
    (he : ∀ args w, (callFunc f args).run Try.prog w = .ok (.enter f args) w) : (execOp a.eval o).run Try.prog w = .ok (.enter f #[u]) w := by
  have hf : a.eval (.func f) = .func (.func f) #[] #[] := rfl
  unfold execOp
  simp only [ho, resolve, List.map_toArray, List.map_cons, List.map_nil, hx, hf]
  simp [go_sem, he]
end
section
variable {N : Nat} {wr : Nat → Bool} {us : Nat → Nat → Bool} {O : Nat → Nat → Prop} {i j : Nat} {w w' W0 : World} {base : Nat} {v : Value}
end
end Go.Proofs
namespace Go.Proofs.Ct
theorem inv_drop (w : W) (i : Nat) : Ct.inv (w.drop i) = (Ct.inv w).take (w.length - i) := by
  unfold inv
  rw [List.reverse_drop, List.map_take]
theorem leadTo_take (t : Tb) (r : Int) (w : W) (n : Nat) : ∀ k, k ≤ n → leadTo t r (w.take n) k = leadTo t r w k
  | 0, _ => rfl
  | k + 1, h => by
    have e : (w.take n).getD k 0 = w.getD k 0 := by
      rw [List.getD_eq_getElem?_getD, List.getElem?_take, if_pos (by omega), ← List.getD_eq_getElem?_getD]
    rw [leadTo_succ, leadTo_succ, leadTo_take t r w n k (by omega), e]
theorem fwd_back (t : Tb) (r : Int) (w : W) {i : Nat} (hi : i ≤ w.length) : fwd t r (Ct.inv (w.drop i)) = bwd t r w i ∧ leadTo t r (Ct.inv (w.drop i)) (bwd t r w i) = leadTo t r (Ct.inv w) (bwd t r w i) ∧ i + bwd t r w i ≤ w.length := by
  obtain ⟨h1, h2, h3⟩ := bwd_spec t r w i
  have hb : i + bwd t r w i ≤ w.length := by
    rcases Nat.eq_zero_or_pos (bwd t r w i) with e | e
    · omega
    · have := (h3 (bwd t r w i - 1) (by omega)).1
      omega
  have hl : (Ct.inv (w.drop i)).length = w.length - i := by rw [length_inv, List.length_drop]
  refine ⟨fwd_eq (by omega) ?_ fun j hj => ?_, ?_, hb⟩
  · rcases h2 with h | h
    · exact .inl (by omega)
    · by_cases hn : bwd t r w i = w.length - i
      · exact .inl (by omega)
      · right
        rw [inv_drop, leadTo_take _ _ _ _ _ (by omega)]
        exact h
  · rw [inv_drop, leadTo_take _ _ _ _ _ (by omega)]
    exact (h3 j hj).2
  · rw [inv_drop, leadTo_take _ _ _ _ _ (by omega)]
theorem lead_inF {g : Nat} {s : St} (hI : Inv g s) {vs : W} (hl : LOk g vs) {r : Nat} (hr : r < s.t.length) : ∀ k, k ≤ vs.length → 0 ≤ leadTo s.t r vs k → (leadTo s.t r vs k).toNat < s.t.length
  | 0, _, _ => by
    show ((r : Int)).toNat < _
    rw [Int.toNat_natCast]; exact hr
  | k + 1, h2, h3 => by
    have ih := lead_inF hI hl hr k (by omega)
    rw [leadTo_succ] at h3 ⊢
    by_cases hneg : leadTo s.t r vs k < 0
    · rw [if_pos hneg] at h3; omega
    · rw [if_neg hneg] at h3 ⊢
      have hin := ih (by omega)
      have := (hI.bd _ hin _ (hl.col (k := k) (by omega))).2
      omega
theorem LOk.drop {g : Nat} {w : W} (h : LOk g w) (i : Nat) : LOk g (w.drop i) := fun x hx => h x (List.mem_of_mem_drop hx)
end Go.Proofs.Ct
namespace Go.Proofs
open Go.RowKit Go.Shelf Go.Proofs.Ct Go.Maps
theorem bl3F {a b c : World} (h1 : Below a.heap.size a b) (h2 : Below b.heap.size b c) : Below a.heap.size a c := h1.trans (h2.mono h1.size)
theorem lok_mildF {g : Nat} (hg : g ≤ 100000) {a : W} (h : LOk g a) : ∀ z ∈ a, Mild z := fun z hz => by
  have := h z hz
  unfold Mild
  omega
theorem under25e : Try.prog.underlying 25 = some (.slice (Try.prog.elem 25)) := by kernel_rfl
theorem r_slice_lo25 {o : Oper} {a : Act} {w : World} (x y : Operand) (A : Option Addr) (n c k : Nat) (ho : o.op = .slice 25 x (some y) none none) (hx : a.eval x = .slice A n c) (hy : a.eval y = .int .i64 (k : Int)) (hk : k ≤ n) : (execOp a.eval o).run Try.prog w = .ok (.value (sliced A k n c 1)) w := by
  have hu := under25e
  have hs : (sizeOf (Try.prog.elem 25)).run Try.prog w = .ok 1 w := by kernel_rfl
  unfold execOp
  simp only [ho, hx, hy, Option.map_none, Option.map_some, Sem.run_bind, run_sliceAt_slice w 25 _ _ _ _ hu, run_slice_l w 25 A n c hu .i64 (k : Int) (by omega) (by omega)]
  simp [hs]
set_option maxRecDepth 100000 in
set_option maxHeartbeats 4000000 in
theorem scan196_any (K : Nat → Prop) (T : TypeId) (ex : List Value) (bl cs : Nat → Nat) (g m base b lim r : Nat) (hm : m = 2 * g) (hg1 : 1 ≤ g) (hg : g ≤ 16) (w : World) (f : FS) (u : Value) (ws : W) (hT : TyF T) (hR : Ct.Rest g f.s) (hS : StFB K T ex bl cs base b m lim w f) (hbw : base ≤ w.heap.size) (hn : f.s.t.length ≤ 1000000) (hu : IntsAt w u ws) (hl : LOk g ws) (hwl : ws.length ≤ 1000000) (hr : r < f.s.t.length) (hk : f.k.length + f.s.t.length * m ≤ 1000000000000) :
    Calls Try.prog 196 #[.pointer (some ⟨b, 0, none⟩), .int .i64 (r : Int), u] w fun e w' => e = .returned (openV (scanF m f r ws).2) ∧ StFB K T ex bl cs base b m lim w' (scanF m f r ws).1 ∧ Keeps base K w w' := by
  obtain ⟨Au, cu, rfl, hu1, hu2, -⟩ := hu.open_
  obtain ⟨i, hi⟩ : ∃ i, fwd f.s.t r ws = i := ⟨_, rfl⟩
  obtain ⟨hfs1, -, hfs3⟩ := fwd_spec f.s.t r ws
  rw [hi] at hfs1
  obtain ⟨j, hj⟩ : ∃ j, bwd f.s.t r ws i = j := ⟨_, rfl⟩
  obtain ⟨hb1, hb2, hb3⟩ := fwd_back f.s.t r ws hfs1
  rw [hj] at hb1 hb2 hb3
  have hlen : ∀ (vs : W) (k : Nat), LOk g vs → k ≤ vs.length → 0 ≤ leadTo f.s.t r vs k → (leadTo f.s.t r vs k).toNat < f.s.t.length := fun vs k h1 h2 h3 => lead_inF hR.inv h1 hr k h2 h3
  obtain ⟨z, hz⟩ : ∃ z : Nat, leadTo f.s.t r ws i = (z : Int) := ⟨(leadTo f.s.t r ws i).toNat, by have := fwd_pos f.s.t r ws; rw [hi] at this; omega⟩
  obtain ⟨v, hv⟩ : ∃ v : Nat, leadTo f.s.t r (Ct.inv ws) j = (v : Int) := ⟨(leadTo f.s.t r (Ct.inv ws) j).toNat, by have := bwd_pos f.s.t r ws i; rw [hj] at this; omega⟩
  have hzl : z < f.s.t.length := by have := hlen ws i hl hfs1 (by rw [hz]; omega); rw [hz, Int.toNat_natCast] at this; exact this
  have hvl : v < f.s.t.length := by have := hlen (Ct.inv ws) j hl.inv (by rw [length_inv]; omega) (by rw [hv]; omega); rw [hv, Int.toNat_natCast] at this; exact this
  have HSC : Hid (scanF m f r ws = if i = ws.length then (if (z : Int) = (r : Int) then f else coinF m f z r, none) else if ws.length ≤ i + j then (coinF m f z v, none) else if ws.length = i + j + 1 then (joinF f z (col (ws.getD i 0)) v, none) else (f, some (z, col (ws.getD i 0)))) := Lib.hid (by
    unfold scanF
    rw [hi, hj, hz, hv, Int.toNat_natCast, Int.toNat_natCast])
  have HBW := Lib.hid hbw
  have HSW : Hid (∀ W, Below w.heap.size w W → StFB K T ex bl cs base b m lim W f ∧ base ≤ W.heap.size ∧ Keeps base K w W ∧ IntsAt W (.slice Au ws.length cu) ws) := Lib.hid fun W h => ⟨hS.below h, Nat.le_trans hbw h.size, Keeps.all h hbw hS.lt, hu.below h⟩
  have HW1 : Hid (Calls Try.prog 214 #[.pointer (some ⟨b, 0, none⟩), .int .i64 (r : Int), .slice Au ws.length cu] w fun e w' => e = .returned (.tuple #[.int .i64 (z : Int), .int .i64 (i : Int)]) ∧ ∃ q, w' = w.drewN q) := Lib.hid (by
    have h := walk214_any K T ex bl cs g base b m lim r hg w f _ ws hR.inv hS hn hu hl hr
    rw [hi, hz] at h
    exact h)
  have HW2 : Hid (∀ W v0, Below w.heap.size w W → IntsAt W v0 (Ct.inv (ws.drop i)) → Calls Try.prog 214 #[.pointer (some ⟨b, 0, none⟩), .int .i64 (r : Int), v0] W fun e w' => e = .returned (.tuple #[.int .i64 (v : Int), .int .i64 (j : Int)]) ∧ ∃ q, w' = W.drewN q) := Lib.hid fun W v0 h1 h2 => by
    have h := walk214_any K T ex bl cs g base b m lim r hg W f _ _ hR.inv (hS.below h1) hn h2 (hl.drop i).inv hr
    rw [hb1, hb2, hv] at h
    exact h
  have hms : ∀ x ∈ ws.drop i, Mild x := lok_mildF (by omega) (hl.drop i)
  have HIV : Hid (∀ W v0, IntsAt W v0 (ws.drop i) → Calls Try.prog 189 #[v0] W (InvPost (ws.drop i) W)) := Lib.hid fun W v0 h => inverse189_any W v0 _ h (by rw [List.length_drop]; omega) hms
  have HFI : Hid (Fits (Ct.inv (ws.drop i))) := Lib.hid fun x hx => by have := (hl.drop i).inv x hx; omega
  have HSL : Hid (∀ W, IntsAt W (.slice Au ws.length cu) ws → ∃ A', sliced Au i ws.length cu 1 = .slice A' (ws.length - i) (cu - i) ∧ IntsAt W (.slice A' (ws.length - i) (cu - i)) (ws.drop i)) := Lib.hid fun W h => by
    obtain ⟨A', h1, h2⟩ := ints_sliced h hfs1 (Nat.le_refl _)
    rw [List.take_length] at h2
    exact ⟨A', h1, h2⟩
  have HCN : Hid (∀ W p q, p < f.s.t.length → q < f.s.t.length → StFB K T ex bl cs base b m lim W f → base ≤ W.heap.size → Calls Try.prog 215 #[.pointer (some ⟨b, 0, none⟩), .int .i64 (p : Int), .int .i64 (q : Int)] W fun e w' => e = .returned (.tuple #[]) ∧ StFB K T ex bl cs base b m lim w' (coinF m f p q) ∧ Keeps base K W w') := Lib.hid fun W p q h1 h2 h3 h4 =>
    coincide215_any K T ex bl cs g m base b lim p q hm W f hT hR hg1 hg h3 h4 h1 h2 hn hk
  have HJO : Hid (∀ W p c q, p < f.s.t.length → q < f.s.t.length → c < 2 * g → StFB K T ex bl cs base b m lim W f → base ≤ W.heap.size → Calls Try.prog 216 #[.pointer (some ⟨b, 0, none⟩), .int .i64 (p : Int), .int .i64 (c : Int), .int .i64 (q : Int)] W fun e w' => e = .returned (.tuple #[]) ∧ StFB K T ex bl cs base b m lim w' (joinF f p c q) ∧ Keeps base K W w') := Lib.hid fun W p c q h1 h2 h3 h4 h5 =>
    set216_any K T ex bl cs g base b m lim p c q W f hT hR.inv hg h4 h5 h1 h2 h3 hn (by omega)
  have HLL := Lib.hid hl
  have hws0 : (0 : Int) ≤ (ws.length : Int) := Int.natCast_nonneg _
  have hws1 : (ws.length : Int) ≤ 1000000 := by omega
  have hi0 : (0 : Int) ≤ (i : Int) := Int.natCast_nonneg _
  have hi1 : (i : Int) ≤ (ws.length : Int) := by omega
  have hj0 : (0 : Int) ≤ (j : Int) := Int.natCast_nonneg _
  have hij : (i : Int) + (j : Int) ≤ (ws.length : Int) := by omega
  have hz0 : (0 : Int) ≤ (z : Int) := Int.natCast_nonneg _
  have hr0 : (0 : Int) ≤ (r : Int) := Int.natCast_nonneg _
  have hv0 : (0 : Int) ≤ (v : Int) := Int.natCast_nonneg _
  have hjv : i = ws.length → v = r := fun e => by
    have : j = 0 := by omega
    rw [this] at hv
    have : (r : Int) = (v : Int) := hv
    omega
  clear hS hu hR hl hT hbw hfs3 hb1 hb2 hlen hz hv hms hi hj
  obtain ⟨A', hsl, -⟩ := HSL.out w (HSW.out w (Below.refl _ _)).2.2.2
  have HSV := Lib.hid hsl
  have HSI : Hid (∀ W, Below w.heap.size w W → IntsAt W (.slice A' (ws.length - i) (cu - i)) (ws.drop i)) := Lib.hid fun W h => by
    obtain ⟨A2, h1, h2⟩ := HSL.out W (HSW.out W h).2.2.2
    rw [HSV.out] at h1
    obtain ⟨rfl, -, -⟩ := Value.slice.inj h1
    exact h2
  clear hsl
  go_enter Try.func196, Try.ntmps196
  go_wp2_with fail
  refine HW1.out.mono ?_
  rintro e w1 ⟨rfl, q1, rfl⟩
  have HB1 : Hid (Below w.heap.size w (w.drewN q1)) := Lib.hid (below_drewN (Below.refl _ _) q1)
  clear HW1
  generalize w.drewN q1 = w1 at *
  go_wp2_with ((with_reducible refine wpList_sel 25 ?_); refine wpList_val rfl (r_slice_lo25 (.tmp 23) (.tmp 24) _ _ _ i rfl rfl rfl (by omega)) ?_; rw [show sliced Au i ws.length cu 1 = _ from HSV.out])
  refine (HIV.out _ _ (HSI.out _ HB1.out)).mono ?_
  rintro e w2 ⟨A3, c3, rfl, ho, hb⟩
  have HB2 := Lib.hid (bl3F HB1.out hb)
  have hi2 := OwnI.ints ho HFI.out
  rw [List.length_drop] at hi2
  have HI2 := Lib.hid hi2
  clear ho hb hi2
  go_wp2_with fail
  refine (HW2.out _ _ HB2.out HI2.out).mono ?_
  rintro e w3 ⟨rfl, q2, rfl⟩
  have HB3 : Hid (Below w.heap.size w (w2.drewN q2)) := Lib.hid (bl3F HB2.out (below_drewN (Below.refl _ _) q2))
  clear HW2 HI2 HB2 HB1 HIV HFI HSI HSV HSL
  generalize w2.drewN q2 = w3 at *
  have HCC : Hid (∀ (p q : Nat), p < f.s.t.length → q < f.s.t.length → Calls Try.prog 215 #[.pointer (some ⟨b, 0, none⟩), .int .i64 (p : Int), .int .i64 (q : Int)] w3 fun e w' => e = .returned (.tuple #[]) ∧ StFB K T ex bl cs base b m lim w' (coinF m f p q) ∧ Keeps base K w w') := Lib.hid fun p q h1 h2 =>
    (HCN.out w3 p q h1 h2 (HSW.out _ HB3.out).1 (HSW.out _ HB3.out).2.1).mono fun e w' ⟨h1, h2, h3⟩ => ⟨h1, h2, (HSW.out _ HB3.out).2.2.1.trans h3⟩
  by_cases hil : i = ws.length
  · obtain rfl := hjv hil
    subst hil
    have hje : j = 0 := by omega
    subst hje
    by_cases hzr : z = v
    · have HE : Hid (scanF m f v ws = (f, none)) := Lib.hid (by rw [HSC.out, if_pos rfl, if_pos (by rw [hzr])])
      subst hzr
      clear HCC HSC HCN HJO
      go_wp2_with fail
      go_ret3
      exact ⟨by rw [HE.out]; rfl, by rw [HE.out]; exact (HSW.out _ HB3.out).1, (HSW.out _ HB3.out).2.2.1⟩
    · have HE : Hid (scanF m f v ws = (coinF m f z v, none)) := Lib.hid (by rw [HSC.out, if_pos rfl, if_neg (by omega)])
      have d1 : ((z : Int) == (v : Int)) = false := by rw [beq_eq_false_iff_ne]; omega
      have d2 : ((z : Int) != (v : Int)) = true := by simp; omega
      have HC := Lib.hid (HCC.out z v hzl hvl)
      clear HCC HSC HCN HJO hzr
      go_wp2_with fail
      refine HC.out.mono ?_
      rintro e w4 ⟨rfl, hs, hb⟩
      have HS4 := Lib.hid hs
      have HB4 := Lib.hid hb
      clear hs hb
      go_wp2_with fail
      go_ret3
      exact ⟨by rw [HE.out]; rfl, by rw [HE.out]; exact HS4.out, HB4.out⟩
  · have hilt : (i : Int) < (ws.length : Int) := by omega
    have d0 : ((i : Int) == (ws.length : Int)) = false := by rw [beq_eq_false_iff_ne]; omega
    clear hjv
    obtain ⟨-, -, -, bw, ow, rfl, hcc⟩ : True ∧ True ∧ True ∧ ∃ b off, Au = some ⟨b, off, none⟩ ∧ ∀ k, k < ws.length → w3.cell? ⟨b, off + k, none⟩ = some (.int .i64 (ws.getD k 0)) := by
      obtain ⟨A9, c9, e9, -, -, h9⟩ := (HSW.out _ HB3.out).2.2.2.open_
      obtain ⟨rfl, -, rfl⟩ := Value.slice.inj e9
      exact ⟨trivial, trivial, trivial, h9 (by omega)⟩
    have hci := hcc i (by omega)
    have hx := HLL.out.getD (k := i) (by omega)
    have hcx := HLL.out.col (k := i) (by omega)
    have hxr : -16 ≤ ws.getD i 0 ∧ ws.getD i 0 ≤ 16 := by omega
    have HCO : Hid (∀ W, Calls Try.prog 217 #[.int .i64 (ws.getD i 0)] W fun e w' => e = .returned (.int .i64 (col (ws.getD i 0) : Nat)) ∧ W = w') := Lib.hid fun W => column217_any W _ (by omega)
    have HJJ : Hid (Calls Try.prog 216 #[.pointer (some ⟨b, 0, none⟩), .int .i64 (z : Int), .int .i64 (col (ws.getD i 0) : Nat), .int .i64 (v : Int)] w3 fun e w' => e = .returned (.tuple #[]) ∧ StFB K T ex bl cs base b m lim w' (joinF f z (col (ws.getD i 0)) v) ∧ Keeps base K w w') := Lib.hid
      ((HJO.out w3 z _ v hzl hvl hcx (HSW.out _ HB3.out).1 (HSW.out _ HB3.out).2.1).mono fun e w' ⟨h1, h2, h3⟩ => ⟨h1, h2, (HSW.out _ HB3.out).2.2.1.trans h3⟩)
    have HSCX := Lib.hid HSC.out
    rw [if_neg hil] at HSCX
    clear hcc hx hil HSC HCN HJO
    by_cases hg0 : ws.length ≤ i + j
    · have HE : Hid (scanF m f r ws = (coinF m f z v, none)) := Lib.hid (by rw [HSCX.out, if_pos hg0])
      have hgz : (ws.length : Int) - (i : Int) - (j : Int) = 0 := by omega
      have HC := Lib.hid (HCC.out z v hzl hvl)
      clear HCC HSCX hg0 HJJ
      go_wp2_with fail
      refine HC.out.mono ?_
      rintro e w4 ⟨rfl, hs, hb⟩
      have HS4 := Lib.hid hs
      have HB4 := Lib.hid hb
      clear hs hb
      go_wp2_with fail
      go_ret3
      exact ⟨by rw [HE.out]; rfl, by rw [HE.out]; exact HS4.out, HB4.out⟩
    · have d3 : ((ws.length : Int) - (i : Int) - (j : Int) == 0) = false := by rw [beq_eq_false_iff_ne]; omega
      by_cases hg2 : ws.length = i + j + 1
      · have HE : Hid (scanF m f r ws = (joinF f z (col (ws.getD i 0)) v, none)) := Lib.hid (by rw [HSCX.out, if_neg hg0, if_pos hg2])
        have hgz : (ws.length : Int) - (i : Int) - (j : Int) = 1 := by omega
        clear HCC HSCX hg0
        generalize col (ws.getD i 0) = cx at *
        generalize ws.getD i 0 = x at *
        go_wp2_with (first
          | (go_at_call 217; (refine (HCO.out _).mono ?_); rintro e w4 ⟨rfl, rfl⟩)
          | (go_at_call 216; (refine HJJ.out.mono ?_); rintro e w5 ⟨rfl, hs, hb⟩
             have HS4 := Lib.hid hs
             have HB4 := Lib.hid hb
             clear hs hb))
        go_ret3
        exact ⟨by rw [HE.out]; rfl, by rw [HE.out]; exact HS4.out, HB4.out⟩
      · have HE : Hid (scanF m f r ws = (f, some (z, col (ws.getD i 0)))) := Lib.hid (by rw [HSCX.out, if_neg hg0, if_neg hg2])
        have hgz : 1 < (ws.length : Int) - (i : Int) - (j : Int) := by omega
        have d4 : ((ws.length : Int) - (i : Int) - (j : Int) == 1) = false := by rw [beq_eq_false_iff_ne]; omega
        clear HCC HSCX hg0 hg2 HJJ
        generalize col (ws.getD i 0) = cx at *
        generalize ws.getD i 0 = x at *
        go_wp2_with (go_at_call 217; (refine (HCO.out _).mono ?_); rintro e w4 ⟨rfl, rfl⟩)
        go_ret3
        exact ⟨by rw [HE.out]; rfl, by rw [HE.out]; exact (HSW.out _ HB3.out).1, (HSW.out _ HB3.out).2.2.1⟩
end Go.Proofs
