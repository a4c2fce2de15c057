/- column, Reverse, inverse of felsch (printed by genX7.py); The cosets of Felsch's strategy: walk; The reference of Felsch's strategy: scan (printed by genY6.py out of Q6); The reference of Felsch's strategy: letter, inverse, same; append of one list to another of the call's own. -/
import Derived.Test.YtmpnengjboabcaaFrCS16
import Derived.Test.YtmpnengjboabcaaFrCS5
import Derived.Test.YtmpnengjboabcaaFrCS9
import Derived.Test.YtmpnengjboabcaaFrCS15
import Derived.Test.YtmpnengjboabcaaFrCS6
import Derived.Test.YtmpnengjboabcaaFrCS11
import Derived.Test.YtmpnengjboabcaaFrCS3
namespace Go.Proofs.Ct
/-- the list with the first k and the last k exchanged -/
def revTo (xs : List Int) (k : Nat) : List Int := foldTo (fun k l => (l.set k (l.getD (xs.length - 1 - k) 0)).set (xs.length - 1 - k) (l.getD k 0)) k xs
theorem revTo_succ (xs : List Int) (k : Nat) : revTo xs (k + 1) = ((revTo xs k).set k ((revTo xs k).getD (xs.length - 1 - k) 0)).set (xs.length - 1 - k) ((revTo xs k).getD k 0) := rfl
theorem length_revTo (xs : List Int) : ∀ k, (revTo xs k).length = xs.length
  | 0 => rfl
  | k + 1 => by rw [revTo_succ, List.length_set, List.length_set, length_revTo xs k]
theorem getD_set1 {l : List Int} {k : Nat} {x : Int} (hk : k < l.length) (i : Nat) : (l.set k x).getD i 0 = if i = k then x else l.getD i 0 := by
  rw [List.getD_eq_getElem?_getD, List.getElem?_set]
  by_cases h : k = i
  · subst h
    rw [if_pos rfl, if_pos rfl]
    simp [hk]
  · rw [if_neg h, if_neg (fun e => h e.symm), List.getD_eq_getElem?_getD]
theorem revTo_getD (xs : List Int) : ∀ k, 2 * k ≤ xs.length → ∀ i, i < xs.length → (revTo xs k).getD i 0 = if i < k ∨ xs.length ≤ i + k then xs.getD (xs.length - 1 - i) 0 else xs.getD i 0
  | 0, _, i, hi => by rw [if_neg (by omega)]; rfl
  | k + 1, hk, i, hi => by
    have ih := revTo_getD xs k (by omega)
    have hl := length_revTo xs k
    rw [revTo_succ, getD_set1 (by rw [List.length_set]; omega), getD_set1 (by omega), ih k (by omega), ih (xs.length - 1 - k) (by omega), ih i hi]
    rw [if_neg (by omega : ¬ (k < k ∨ xs.length ≤ k + k)), if_neg (by omega : ¬ (xs.length - 1 - k < k ∨ xs.length ≤ xs.length - 1 - k + k))]
    by_cases h1 : i = xs.length - 1 - k
    · rw [if_pos h1, if_pos (by omega), h1, show xs.length - 1 - (xs.length - 1 - k) = k by omega]
    · rw [if_neg h1]
      by_cases h2 : i = k
      · rw [if_pos h2, if_pos (by omega), h2]
      · rw [if_neg h2]
        by_cases h3 : i < k ∨ xs.length ≤ i + k
        · rw [if_pos h3, if_pos (by omega)]
        · rw [if_neg h3, if_neg (by omega)]
theorem revTo_all (xs : List Int) {k : Nat} (h1 : 2 * k ≤ xs.length) (h2 : xs.length ≤ 2 * k + 1) : revTo xs k = xs.reverse := by
  refine List.ext_getElem? fun i => ?_
  have hl := length_revTo xs k
  rcases Nat.lt_or_ge i xs.length with hi | hi
  · have h := revTo_getD xs k h1 i hi
    rw [List.getD_eq_getElem?_getD, List.getElem?_eq_getElem (by omega)] at h
    rw [List.getElem?_eq_getElem (by omega), List.getElem?_eq_getElem (by simpa using hi), List.getElem_reverse]
    have e : xs.getD (xs.length - 1 - i) 0 = xs[xs.length - 1 - i] := by rw [List.getD_eq_getElem?_getD, List.getElem?_eq_getElem (by omega)]; rfl
    have e2 : xs.getD i 0 = xs[i] := by rw [List.getD_eq_getElem?_getD, List.getElem?_eq_getElem hi]; rfl
    simp only [Option.getD_some] at h
    rw [h]
    split
    · rw [e]
    · congr 1
      rw [e2]
      congr 1
      omega
  · rw [List.getElem?_eq_none (by omega), List.getElem?_eq_none (by simpa using hi)]
/-- the first k negated -/
def negTo (xs : List Int) (k : Nat) : List Int := foldTo (fun k l => l.set k (-(l.getD k 0))) k xs
theorem negTo_succ (xs : List Int) (k : Nat) : negTo xs (k + 1) = (negTo xs k).set k (-((negTo xs k).getD k 0)) := rfl
theorem length_negTo (xs : List Int) : ∀ k, (negTo xs k).length = xs.length
  | 0 => rfl
  | k + 1 => by rw [negTo_succ, List.length_set, length_negTo xs k]
theorem negTo_getD (xs : List Int) : ∀ k, k ≤ xs.length → ∀ i, (negTo xs k).getD i 0 = if i < k then -(xs.getD i 0) else xs.getD i 0
  | 0, _, i => rfl
  | k + 1, hk, i => by
    have ih := negTo_getD xs k (by omega)
    rw [negTo_succ, getD_set1 (by rw [length_negTo]; omega), ih k, ih i, if_neg (Nat.lt_irrefl k)]
    by_cases h1 : i = k
    · rw [if_pos h1, if_pos (by omega), h1]
    · rw [if_neg h1]
      by_cases h2 : i < k
      · rw [if_pos h2, if_pos (by omega)]
      · rw [if_neg h2, if_neg (by omega)]
theorem negTo_all (xs : List Int) : negTo xs xs.length = xs.map fun x => -x := by
  refine List.ext_getElem? fun i => ?_
  have hl := length_negTo xs xs.length
  rcases Nat.lt_or_ge i xs.length with hi | hi
  · have h := negTo_getD xs xs.length (Nat.le_refl _) i
    rw [if_pos hi, List.getD_eq_getElem?_getD, List.getD_eq_getElem?_getD, List.getElem?_eq_getElem (by omega), List.getElem?_eq_getElem hi] at h
    rw [List.getElem?_eq_getElem (by omega), List.getElem?_map, List.getElem?_eq_getElem hi]
    exact congrArg some h
  · rw [List.getElem?_eq_none (by omega), List.getElem?_eq_none (by simpa using hi)]
end Go.Proofs.Ct
namespace Go.Proofs
open Go.RowKit Go.Shelf Go.Proofs.Ct Go.Maps
set_option maxRecDepth 100000 in
theorem column217_any (w : World) (x : Int) (h : -16 ≤ x ∧ x ≤ 16 ∧ x ≠ 0) : Calls Try.prog 217 #[.int .i64 x] w fun e w' => e = .returned (.int .i64 (col x : Nat)) ∧ w = w' := by
  obtain ⟨h1, h2, h3⟩ := h
  by_cases h : x < 0
  · have HC : Hid (((col x : Nat) : Int) = -2 * x - 1) := Lib.hid (by unfold col; split <;> omega)
    go_enter Try.func217, Try.ntmps217
    go_wp2_with fail
    go_ret
    exact ⟨ret_int HC.out.symm, rfl⟩
  · have HC : Hid (((col x : Nat) : Int) = 2 * x - 2) := Lib.hid (by unfold col; split <;> omega)
    have h4 : 0 < x := by omega
    clear h
    go_enter Try.func217, Try.ntmps217
    go_wp2_with fail
    go_ret
    exact ⟨ret_int HC.out.symm, rfl⟩
set_option maxRecDepth 100000 in
set_option maxHeartbeats 2000000 in
theorem reverse212_any (base : Nat) (w : World) (v : Value) (xs : List Int) (ho : OwnI base w v xs) (hl : xs.length ≤ 1000000) (hbw : base ≤ w.heap.size) :
    Calls Try.prog 212 #[v] w fun e w' => e = .returned (.tuple #[]) ∧ OwnI base w' v xs.reverse ∧ Below base w w' := by
  have HO := Lib.hid ho
  have HBW := Lib.hid hbw
  have hl0 : (xs.length : Int) ≤ 1000000 := by omega
  have hl1 : (0 : Int) ≤ (xs.length : Int) := Int.natCast_nonneg _
  rcases Nat.eq_zero_or_pos xs.length with h0 | h0
  · obtain ⟨A, c0, rfl⟩ := owns_form ho
    have hx : xs = [] := List.length_eq_zero_iff.1 h0
    subst hx
    clear ho
    go_enter Try.func212, Try.ntmps212
    go_wp2_with fail
    go_loopw [2, 3] (fun i j wr => i = .int .i64 0 ∧ j = .int .i64 (-1) ∧ wr = w) (fun i _ _ => 0)
    case atStart => exact ⟨rfl, rfl, rfl⟩
    case round =>
      obtain ⟨rfl, rfl, rfl⟩ := hrel
      go_wp2_with fail
      go_end0
      exact ⟨rfl, HO.out, Below.refl _ _⟩
  · obtain ⟨q, c0, rfl, hqb, -, -, -⟩ := ownI_cell ho h0
    clear ho
    go_enter Try.func212, Try.ntmps212
    go_wp2_with fail
    go_loopw [2, 3] (fun i j wr => ∃ (k : Nat) (J : Int), i = .int .i64 (k : Int) ∧ j = .int .i64 J ∧ J = (xs.length : Int) - 1 - k ∧ 2 * k ≤ xs.length ∧ Hid (OwnI base wr (.slice (some ⟨q, 0, none⟩) xs.length c0) (revTo xs k)) ∧ Hid (Below base w wr)) (fun i _ _ => xs.length - (intOf i).toNat)
    case atStart => exact ⟨0, _, rfl, rfl, by omega, by omega, HO, Lib.hid (Below.refl _ _)⟩
    case round =>
      obtain ⟨k, J, rfl, rfl, hJ, hk, HV, HB⟩ := hrel
      have hk0 : (0 : Int) ≤ (k : Int) := Int.natCast_nonneg _
      by_cases hlt : (k : Int) < J
      · obtain ⟨j, rfl⟩ : ∃ j : Nat, J = (j : Int) := ⟨J.toNat, by omega⟩
        have hjl : j < xs.length := by omega
        have hkl : k < xs.length := by omega
        have hj : j = xs.length - 1 - k := by omega
        have hjI : (j : Int) < (xs.length : Int) := by omega
        have hkI : (k : Int) < (xs.length : Int) := by omega
        have HR : OwnI base wr.drew (.slice (some ⟨q, 0, none⟩) xs.length c0) (revTo xs k) := owns_below HV.out (Below.refl _ _).drew
        have hlr := length_revTo xs k
        have hc1 := ownI_at HR (k := k) (by omega)
        have hc2 := ownI_at HR (k := j) (by omega)
        have hn1 := ownI_set HR (g := q) rfl (k := k) (by omega) ((revTo xs k).getD j 0)
        have hc3 := ownI_at hn1 (k := j) (by rw [List.length_set]; omega)
        have hn2 := ownI_set hn1 (g := q) rfl (k := j) (by rw [List.length_set]; omega) ((revTo xs k).getD k 0)
        have hst := revTo_succ xs k
        rw [← hj] at hst
        rw [← hst] at hn2
        have HN := Lib.hid hn2
        have HBE : Hid (Below base w ((wr.drew.setCell ⟨q, k, none⟩ (.int .i64 ((revTo xs k).getD j 0))).setCell ⟨q, j, none⟩ (.int .i64 ((revTo xs k).getD k 0)))) := Lib.hid ((HB.out.drew.setCell hqb _).setCell hqb _)
        have HCK := Lib.hid hc1.1
        have HFK := Lib.hid hc1.2
        have HCJ := Lib.hid hc2.1
        have HCJ2 := Lib.hid hc3.1
        have HFJ2 := Lib.hid hc3.2
        clear hc1 hc2 hc3 hn1 hn2 hst HR hlr HV
        generalize ((revTo xs k).set k ((revTo xs k).getD j 0)).getD j 0 = z at *
        generalize (revTo xs k).getD j 0 = y at *
        generalize (revTo xs k).getD k 0 = x at *
        go_wp2_with fail
        refine (wpIn_wide (n := 3)).1 ?_
        refine wpIn_region_all (by kernel_rfl) 16 rfl (fun i => if i < 13 then some (14 + i) else if i = 13 then none else if i = 14 then some 27 else none) (lex_of (by kernel_rfl)) (fun ls W => W = bif ls 15 then (wr.drew.setCell ⟨q, k, none⟩ (.int .i64 y)).setCell ⟨q, j, none⟩ (.int .i64 x) else bif ls 13 then wr.drew.setCell ⟨q, k, none⟩ (.int .i64 y) else wr.drew)
          (fun i v _ => v = ([.slice (some ⟨q, 0, none⟩) xs.length c0, .int .i64 (k : Int), .slice (some ⟨q, 0, none⟩) xs.length c0, .int .i64 (j : Int), .slice (some ⟨q, 0, none⟩) xs.length c0, .int .i64 (j : Int), .pointer (some ⟨q, j, none⟩), .int .i64 y, .slice (some ⟨q, 0, none⟩) xs.length c0, .int .i64 (k : Int), .pointer (some ⟨q, k, none⟩), .int .i64 x, .pointer (some ⟨q, k, none⟩), undef, .pointer (some ⟨q, j, none⟩), undef] : List Value).getD i undef) (fun _ _ _ => True) (dm_inj (by kernel_rfl)) (fun _ _ _ _ _ _ _ _ _ h => h) (dm_lt (n := 28) (by kernel_rfl)) rfl ?_ ?_
        · intro ls q o a w2 hq ho hS2 hls hcl hP hpre
          have hcases : q = 0 ∨ q = 1 ∨ q = 2 ∨ q = 3 ∨ q = 4 ∨ q = 5 ∨ q = 6 ∨ q = 7 ∨ q = 8 ∨ q = 9 ∨ q = 10 ∨ q = 11 ∨ q = 12 ∨ q = 13 ∨ q = 14 ∨ q = 15 := by
            have : q < 16 := hq
            omega
          rcases hcases with rfl | rfl | rfl | rfl | rfl | rfl | rfl | rfl | rfl | rfl | rfl | rfl | rfl | rfl | rfl | rfl
          · obtain rfl := Option.some.inj ho
            exact wpOpIn_of rfl rfl (wpW_val (r_move (.tmp 0) rfl (hP.out 0 (dm_out (by kernel_rfl)))) ⟨_, rfl, hS2, trivial, (fun h => by simp at h), rfl⟩)
          · obtain rfl := Option.some.inj ho
            exact wpOpIn_of rfl rfl (wpW_val (r_move (.tmp 2) rfl (hP.out 2 (dm_out (by kernel_rfl)))) ⟨_, rfl, hS2, trivial, (fun h => by simp at h), rfl⟩)
          · obtain rfl := Option.some.inj ho
            exact wpOpIn_of rfl rfl (wpW_val (r_move (.tmp 0) rfl (hP.out 0 (dm_out (by kernel_rfl)))) ⟨_, rfl, hS2, trivial, (fun h => by simp at h), rfl⟩)
          · obtain rfl := Option.some.inj ho
            exact wpOpIn_of rfl rfl (wpW_val (r_move (.tmp 3) rfl (hP.out 3 (dm_out (by kernel_rfl)))) ⟨_, rfl, hS2, trivial, (fun h => by simp at h), rfl⟩)
          · obtain rfl := Option.some.inj ho
            exact wpOpIn_of rfl rfl (wpW_val (r_move (.tmp 0) rfl (hP.out 0 (dm_out (by kernel_rfl)))) ⟨_, rfl, hS2, trivial, (fun h => by simp at h), rfl⟩)
          · obtain rfl := Option.some.inj ho
            exact wpOpIn_of rfl rfl (wpW_val (r_move (.tmp 3) rfl (hP.out 3 (dm_out (by kernel_rfl)))) ⟨_, rfl, hS2, trivial, (fun h => by simp at h), rfl⟩)
          · obtain rfl := Option.some.inj ho
            exact wpOpIn_of rfl rfl (wpW_val (r_idx (.tmp 18) (.tmp 19) _ _ rfl (hpre ⟨4, .data⟩ (by simp) rfl).2 (hpre ⟨5, .data⟩ (by simp) rfl).2 (idx_sl Try.underlying25 size3 q _ c0 j hjl _)) ⟨_, rfl, hS2, trivial, (fun h => by simp at h), rfl⟩)
          · obtain rfl := Option.some.inj ho
            have h15 := not_yet hcl 15 rfl ⟨7, .phase⟩ (by simp) rfl hls
            have h13 := not_yet hcl 13 rfl ⟨7, .phase⟩ (by simp) rfl hls
            have hw := sel3 hS2 h15 h13
            subst hw
            exact wpOpIn_of rfl rfl (wpW_val (r_load1 3 agg3 (.tmp 20) ⟨q, j, none⟩ rfl (hpre ⟨6, .data⟩ (by simp) rfl).2 HCJ.out) ⟨_, rfl, hS2, trivial, (fun h => by simp at h), rfl⟩)
          · obtain rfl := Option.some.inj ho
            exact wpOpIn_of rfl rfl (wpW_val (r_move (.tmp 0) rfl (hP.out 0 (dm_out (by kernel_rfl)))) ⟨_, rfl, hS2, trivial, (fun h => by simp at h), rfl⟩)
          · obtain rfl := Option.some.inj ho
            exact wpOpIn_of rfl rfl (wpW_val (r_move (.tmp 2) rfl (hP.out 2 (dm_out (by kernel_rfl)))) ⟨_, rfl, hS2, trivial, (fun h => by simp at h), rfl⟩)
          · obtain rfl := Option.some.inj ho
            exact wpOpIn_of rfl rfl (wpW_val (r_idx (.tmp 22) (.tmp 23) _ _ rfl (hpre ⟨8, .data⟩ (by simp) rfl).2 (hpre ⟨9, .data⟩ (by simp) rfl).2 (idx_sl Try.underlying25 size3 q _ c0 k hkl _)) ⟨_, rfl, hS2, trivial, (fun h => by simp at h), rfl⟩)
          · obtain rfl := Option.some.inj ho
            have h15 := not_yet hcl 15 rfl ⟨11, .phase⟩ (by simp) rfl hls
            have h13 := not_yet hcl 13 rfl ⟨11, .phase⟩ (by simp) rfl hls
            have hw := sel3 hS2 h15 h13
            subst hw
            exact wpOpIn_of rfl rfl (wpW_val (r_load1 3 agg3 (.tmp 24) ⟨q, k, none⟩ rfl (hpre ⟨10, .data⟩ (by simp) rfl).2 HCK.out) ⟨_, rfl, hS2, trivial, (fun h => by simp at h), rfl⟩)
          · obtain rfl := Option.some.inj ho
            exact wpOpIn_of rfl rfl (wpW_val (r_idx (.tmp 14) (.tmp 15) _ _ rfl (hpre ⟨0, .data⟩ (by simp) rfl).2 (hpre ⟨1, .data⟩ (by simp) rfl).2 (idx_sl Try.underlying25 size3 q _ c0 k hkl _)) ⟨_, rfl, hS2, trivial, (fun h => by simp at h), rfl⟩)
          · obtain rfl := Option.some.inj ho
            have h15 := not_yet hcl 15 rfl ⟨13, .chain⟩ (by simp) rfl hls
            have hw := sel3 hS2 h15 hls
            subst hw
            exact wpOpIn_of rfl rfl (wpW_skip (r_store1 3 (.tmp 26) (.tmp 21) _ _ _ rfl (hpre ⟨12, .data⟩ (by simp) rfl).2 (hpre ⟨7, .data⟩ (by simp) rfl).2 rfl HCK.out HFK.out (st3 _ _ _ HCK.out HFK.out)) ⟨undef, rfl, (by show _ = bif ls 15 then _ else _; rw [h15]; rfl), trivial, fun _ => rfl, rfl⟩)
          · obtain rfl := Option.some.inj ho
            exact wpOpIn_of rfl rfl (wpW_val (r_idx (.tmp 16) (.tmp 17) _ _ rfl (hpre ⟨2, .data⟩ (by simp) rfl).2 (hpre ⟨3, .data⟩ (by simp) rfl).2 (idx_sl Try.underlying25 size3 q _ c0 j hjl _)) ⟨_, rfl, hS2, trivial, (fun h => by simp at h), rfl⟩)
          · obtain rfl := Option.some.inj ho
            have h13 : ls 13 = true := (hpre ⟨13, .chain⟩ (by simp) rfl).1
            rw [hls, h13] at hS2
            change w2 = wr.drew.setCell ⟨q, k, none⟩ (.int .i64 y) at hS2
            subst hS2
            exact wpOpIn_of rfl rfl (wpW_skip (r_store1 3 (.tmp 27) (.tmp 25) _ _ _ rfl (hpre ⟨14, .data⟩ (by simp) rfl).2 (hpre ⟨11, .data⟩ (by simp) rfl).2 rfl HCJ2.out HFJ2.out (st3 _ _ _ HCJ2.out HFJ2.out)) ⟨undef, rfl, rfl, trivial, fun _ => rfl, rfl⟩)
        · intro ls a w2 hall hS2 hP hsl
          have h15 : ls 15 = true := hall 15 (by decide)
          rw [h15] at hS2
          obtain ⟨vs, hvs, hfr⟩ := hP.frame 28 rfl
          clear hsl hP hall h15 hvs HCK HFK HCJ HCJ2 HFJ2
          subst hfr
          subst hS2
          dsimp only
          simp only [List.range, List.range.loop, List.map_cons, List.map_nil, List.any_cons, List.any_nil, Nat.reduceAdd, Nat.reduceBEq, Nat.reduceLT, Nat.reduceEqDiff, Option.some_beq_some, Bool.or_false, if_true, if_false, List.getD_cons_zero, List.getD_cons_succ, cond_true]
          generalize (wr.drew.setCell ⟨q, k, none⟩ (.int .i64 y)).setCell ⟨q, j, none⟩ (.int .i64 x) = w9 at *
          go_wp2_with fail
          go_roundw
          case rel => exact ⟨k + 1, by go_num, by go_num, by omega, HN⟩
          case measure => simp [intOf]; omega
      · have HE := Lib.hid (revTo_all xs (k := k) hk (by omega))
        go_wp2_with fail
        go_end0
        exact ⟨rfl, by rw [← HE.out]; exact HV.out, HB.out⟩
/-- what inverse hands back -/
def InvPost (xs : List Int) (w : World) (e : Ending) (w' : World) : Prop := ∃ A c, e = .returned (.slice A xs.length c) ∧ OwnI w.heap.size w' (.slice A xs.length c) (Ct.inv xs) ∧ Below w.heap.size w w'
set_option maxRecDepth 100000 in
set_option maxHeartbeats 2000000 in
theorem inverse189_any (w : World) (v : Value) (xs : List Int) (h : IntsAt w v xs) (hl : xs.length ≤ 1000000) (hm : ∀ x ∈ xs, Mild x) :
    Calls Try.prog 189 #[v] w (InvPost xs w) := by
  have HC := Lib.hid (clone71_any w v xs h hl)
  have HM : Hid (∀ k, Mild ((xs.reverse).getD k 0)) := Lib.hid fun k => by
    rcases Nat.lt_or_ge k xs.reverse.length with h1 | h1
    · rw [List.getD_eq_getElem?_getD, List.getElem?_eq_getElem h1]
      exact hm _ (List.mem_reverse.1 (List.getElem_mem h1))
    · rw [List.getD_eq_getElem?_getD, List.getElem?_eq_none h1]
      exact ⟨by show (_ : Int) ≤ 0; omega, by show (0 : Int) ≤ _; omega⟩
  obtain ⟨Av, cv, rfl, hcap, hmax, -⟩ := h.open_
  have hl0 : (xs.length : Int) ≤ 1000000 := by omega
  have hl1 : (0 : Int) ≤ (xs.length : Int) := Int.natCast_nonneg _
  have hrl : xs.reverse.length = xs.length := List.length_reverse
  clear h hm
  unfold InvPost
  go_enter Try.func189, Try.ntmps189
  go_wp2_with fail
  refine HC.out.mono ?_
  rintro e w1 ⟨A, c0, rfl, ho, hb⟩
  have HB1 := Lib.hid hb
  have HRV := Lib.hid (reverse212_any w.heap.size w1 _ xs ho hl hb.size)
  clear ho hb
  go_wp2_with fail
  refine HRV.out.mono ?_
  rintro e w2 ⟨rfl, ho, hb⟩
  have HO2 := Lib.hid ho
  have HB2 := Lib.hid (HB1.out.trans hb)
  clear ho hb HRV HC HB1
  have HE : Hid (negTo xs.reverse xs.length = Ct.inv xs) := Lib.hid (by rw [← hrl]; exact negTo_all _)
  generalize xs.reverse = ys at *
  go_wp2_with fail
  go_loopw [11] (fun i wr => ∃ k : Nat, i = .int .i64 (k : Int) ∧ k ≤ xs.length ∧ Hid (OwnI w.heap.size wr (.slice A xs.length c0) (negTo ys k)) ∧ Hid (Below w.heap.size w wr)) (fun i _ => xs.length - (intOf i).toNat)
  case atStart => exact ⟨0, rfl, Nat.zero_le _, HO2, HB2⟩
  case round =>
    obtain ⟨k, rfl, hk, HV, HB⟩ := hrel
    have hk0 : (0 : Int) ≤ (k : Int) := Int.natCast_nonneg _
    by_cases hlt : k < xs.length
    · have hkI : (k : Int) < (xs.length : Int) := by omega
      have hln := length_negTo ys k
      obtain ⟨q, c1, e1, hqb, -, hcc, hff⟩ := ownI_cell HV.out (by omega)
      injection e1 with e1 e2 e3
      subst e1
      have hck := hcc k (by omega)
      have hfk := hff k
      have hmk := HM.out k
      have hgd : (negTo ys k).getD k 0 = ys.getD k 0 := by rw [negTo_getD ys k (by omega), if_neg (Nat.lt_irrefl k)]
      have hn2 := ownI_set HV.out (g := q) rfl (k := k) (by omega) (-((negTo ys k).getD k 0))
      rw [← negTo_succ] at hn2
      rw [hgd] at hn2 hck
      have HN := Lib.hid hn2
      have HBE := Lib.hid (HB.out.setCell (p := ⟨q, k, none⟩) hqb (.int .i64 (-(ys.getD k 0))))
      unfold Mild at hmk
      clear hn2 hcc hff hgd HV e2 e3
      generalize ys.getD k 0 = x at *
      have hx := hmk.1
      have hx2 := hmk.2
      clear hmk
      go_wp2_with fail
      go_roundw
      case rel => exact ⟨k + 1, by go_num, by omega, HN, HBE⟩
      case measure => simp [intOf]; omega
    · obtain rfl : k = xs.length := by omega
      go_wp2_with fail
      go_ret
      exact ⟨A, c0, rfl, by rw [← HE.out]; exact HV.out, HB.out⟩
end Go.Proofs
namespace Go.Proofs
open Go.RowKit Go.Shelf Go.Proofs.Ct Go.Maps
set_option maxRecDepth 100000 in
set_option maxHeartbeats 4000000 in
theorem walk214_any (K : Nat → Prop) (T : TypeId) (ex : List Value) (bl cs : Nat → Nat) (g base b wd lim r : Nat) (hg : g ≤ 16) (w : World) (f : FS) (u : Value) (ws : W) (hI : Inv g f.s) (hS : StFB K T ex bl cs base b wd lim w f) (hn : f.s.t.length ≤ 1000000) (hu : IntsAt w u ws) (hl : LOk g ws) (hr : r < f.s.t.length) :
    Calls Try.prog 214 #[.pointer (some ⟨b, 0, none⟩), .int .i64 (r : Int), u] w fun e w' => e = .returned (.tuple #[.int .i64 (leadTo f.s.t r ws (fwd f.s.t r ws)), .int .i64 ((fwd f.s.t r ws : Nat) : Int)]) ∧ ∃ q, w' = w.drewN q := by
  obtain ⟨Au, cu, rfl, hu1, hu2, hu3⟩ := hu.open_
  have HU := Lib.hid hu3
  have HL := Lib.hid hl
  have HAT : Hid (∀ r c, r < f.s.t.length → c < 2 * g → ∃ gr cr, w.cell? ⟨b, 2, none⟩ = some (.slice (some ⟨gr, 0, none⟩) f.s.t.length cr) ∧ w.cell? ⟨gr, r, none⟩ = some (.slice (some ⟨bl r, 0, none⟩) (2 * g) (cs r)) ∧ w.cell? ⟨bl r, c, none⟩ = some (.int .i64 (f.s.t.at r c))) := Lib.hid fun r c h1 h2 => hS.at_ hI h1 h2
  have HCO : Hid (∀ (x : Int) n, -(g : Int) ≤ x ∧ x ≤ g ∧ x ≠ 0 → Calls Try.prog 217 #[.int .i64 x] (w.drewN n) fun e w' => e = .returned (.int .i64 (col x : Nat)) ∧ w.drewN n = w') := Lib.hid fun x n h => column217_any _ _ (by omega)
  have hr0 : (0 : Int) ≤ (r : Int) := Int.natCast_nonneg _
  have hn0 : (f.s.t.length : Int) ≤ 1000000 := by omega
  have hws0 : (0 : Int) ≤ (ws.length : Int) := Int.natCast_nonneg _
  have hws1 : (ws.length : Int) ≤ 9223372036854775807 := by omega
  have HRB := Lib.hid hI.bd
  clear hS hu hu3 hl hI
  go_enter Try.func214, Try.ntmps214
  go_wp2_with fail
  go_loopw [1, 13] (fun ff i wr => ∃ k z : Nat, i = .int .i64 k ∧ k ≤ ws.length ∧ ff = .int .i64 (z : Int) ∧ z < f.s.t.length ∧ Hid ((z : Int) = leadTo f.s.t r ws k) ∧ Hid (∀ j, j < k → 0 ≤ leadTo f.s.t r ws (j + 1)) ∧ ∃ q, wr = w.drewN q) (fun _ i _ => ws.length - (intOf i).toNat)
  case atStart => exact ⟨0, r, rfl, by omega, rfl, hr, Lib.hid rfl, Lib.hid fun j hj => absurd hj (by omega), 0, rfl⟩
  case round =>
    obtain ⟨k, z, rfl, hk, rfl, hz, HZ, HJ, q, rfl⟩ := hrel
    have hk0 : (0 : Int) ≤ (k : Int) := Int.natCast_nonneg _
    have hz0 : (0 : Int) ≤ (z : Int) := Int.natCast_nonneg _
    have hzI : (z : Int) < (f.s.t.length : Int) := by omega
    by_cases hlt : k < ws.length
    · have hlt' : (k : Int) < (ws.length : Int) := by omega
      obtain ⟨bw, ow, rfl, hcc⟩ := HU.out (by omega)
      have hck := hcc k hlt
      have hx := HL.out.getD hlt
      have hcx := HL.out.col hlt
      obtain ⟨gr, cr, a1, a2, a3⟩ := HAT.out z (col (ws.getD k 0)) hz hcx
      have HNX : Hid (leadTo f.s.t r ws (k + 1) = f.s.t.at z (col (ws.getD k 0))) := Lib.hid (by
        rw [leadTo_succ, ← HZ.out, if_neg (by omega), Int.toNat_natCast])
      have hbd := HRB.out z hz _ hcx
      have HC1 : Hid (∀ n, Calls Try.prog 217 #[.int .i64 (ws.getD k 0)] (w.drewN n) fun e w' => e = .returned (.int .i64 (col (ws.getD k 0) : Nat)) ∧ w.drewN n = w') := Lib.hid fun n => HCO.out _ n hx
      have hc0 : (0 : Int) ≤ ((col (ws.getD k 0) : Nat) : Int) := Int.natCast_nonneg _
      have hc1 : ((col (ws.getD k 0) : Nat) : Int) < ((2 * g : Nat) : Int) := by omega
      have hxr : -16 ≤ ws.getD k 0 ∧ ws.getD k 0 ≤ 16 := by omega
      clear hcc hx
      by_cases hy : f.s.t.at z (col (ws.getD k 0)) < 0
      · have HK : Hid (leadTo f.s.t r ws (k + 1) < 0) := Lib.hid (by rw [HNX.out]; exact hy)
        have HF : Hid (fwd f.s.t r ws = k) := Lib.hid (fwd_eq (by omega) (.inr HK.out) HJ.out)
        obtain ⟨hy1, hy2⟩ := hbd
        generalize f.s.t.at z (col (ws.getD k 0)) = y at *
        generalize col (ws.getD k 0) = cx at *
        generalize ws.getD k 0 = x at *
        generalize 2 * g = m at *
        go_wp2_with fail
        go_quiet ((go_at_call 217; exact quiet_add_left (HC1.out _)))
        go_wp2_with fail
        go_ret2
        exact ⟨ret_pair (by rw [HF.out]; exact HZ.out) (by rw [HF.out]), (by first | exact ⟨_, rfl⟩ | exact ex_drewN)⟩
      · obtain ⟨y, hye⟩ : ∃ y : Nat, f.s.t.at z (col (ws.getD k 0)) = (y : Int) := ⟨(f.s.t.at z (col (ws.getD k 0))).toNat, by omega⟩
        rw [hye] at HNX a3 hbd hy
        have hy2 : y < f.s.t.length := by omega
        have hy0 : (0 : Int) ≤ (y : Int) := Int.natCast_nonneg _
        have HJ2 : Hid (∀ j, j < k + 1 → 0 ≤ leadTo f.s.t r ws (j + 1)) := Lib.hid fun j hj => by
          rcases Nat.lt_or_ge j k with h | h
          · exact HJ.out j h
          · obtain rfl : j = k := by omega
            rw [HNX.out]; exact hy0
        clear hbd hye
        generalize col (ws.getD k 0) = cx at *
        generalize ws.getD k 0 = x at *
        generalize 2 * g = m at *
        go_wp2_with fail
        go_quiet ((go_at_call 217; exact quiet_add_left (HC1.out _)))
        go_wp2_with fail
        go_roundw
        case rel => exact ⟨k + 1, y, by go_num, by omega, rfl, hy2, Lib.hid HNX.out.symm, HJ2, (by first | exact ⟨_, rfl⟩ | exact ex_drewN)⟩
        case measure => simp [intOf]; omega
    · obtain rfl : k = ws.length := by omega
      have HF : Hid (fwd f.s.t r ws = ws.length) := Lib.hid (fwd_eq (Nat.le_refl _) (.inl rfl) HJ.out)
      go_wp2_with fail
      go_ret2
      exact ⟨ret_pair (by rw [HF.out]; exact HZ.out) (by rw [HF.out]), (by first | exact ⟨_, rfl⟩ | exact ex_drewN)⟩
end Go.Proofs
namespace Go.Proofs
open Go.RowKit Go.Shelf Go.Proofs.Ct Go.Maps
theorem column218_any (w : World) (x : Int) (h : -1000000 ≤ x ∧ x ≤ 1000000 ∧ x ≠ 0) : Calls Try.prog 218 #[.int .i64 x] w fun e w' => e = .returned (.int .i64 (col x : Nat)) ∧ w = w' := by
  obtain ⟨h1, h2, h3⟩ := h
  by_cases hp : 0 < x
  · have HC := Lib.hid (col_pos hp)
    go_enter Try.func218, Try.ntmps218
    go_wp2_with fail
    go_ret
    exact ⟨ret_int (by rw [HC.out]), (by first | trivial | rfl)⟩
  · have HC := Lib.hid (col_neg hp h3)
    go_enter Try.func218, Try.ntmps218
    go_wp2_with fail
    go_ret
    exact ⟨ret_int (by rw [HC.out]), (by first | trivial | rfl)⟩
set_option maxRecDepth 100000 in
set_option maxHeartbeats 4000000 in
theorem scan199_any (K : Nat → Prop) (T : TypeId) (wv : Value) (bl cs : Nat → Nat) (g m base b lim r : Nat) (hm : m = 2 * g) (hg1 : 1 ≤ g) (hg : g ≤ 16) (w : World) (f : FS) (u : Value) (ws : W) (hT : TyF T) (hR : Ct.Rest g f.s) (hS : StGB K T wv bl cs base b lim w f) (hbw : base ≤ w.heap.size) (hn : f.s.t.length ≤ 1000000) (hu : IntsAt w u ws) (hl : LOk g ws) (hr : r < f.s.t.length) (hlr : f.s.rp r = r) (hkk : f.k.length + f.s.t.length * m ≤ 1000000000000) :
    Calls Try.prog 199 #[.pointer (some ⟨b, 0, none⟩), .int .i64 (r : Int), u] w fun e w' => e = .returned (openV (scanF m f r ws).2) ∧ StGB K T wv bl cs base b lim w' (scanF m f r ws).1 ∧ Keeps base K w w' := by
  obtain ⟨Au, cu, rfl, hu1, hu2, hu3⟩ := hu.open_
  have HU := Lib.hid hu3
  have HR := Lib.hid hR
  have HL := Lib.hid hl
  have HLI := Lib.hid hl.inv
  have HM := Lib.hid hm
  have HBW := Lib.hid hbw
  have HS : Hid (∀ q, StGB K T wv bl cs base b lim (w.drewN q) f) := Lib.hid fun q => hS.below (below_drewN (Below.refl _ _) q)
  have HBE : Hid (∀ q, Keeps base K w (w.drewN q)) := Lib.hid fun q => Keeps.all (below_drewN (Below.refl _ _) q) hbw hS.lt
  have HJO : Hid (∀ q p c d, p < f.s.t.length → d < f.s.t.length → c < 2 * g → Calls Try.prog 200 #[.pointer (some ⟨b, 0, none⟩), .int .i64 (p : Int), .int .i64 (c : Int), .int .i64 (d : Int)] (w.drewN q) fun e w' => e = .returned (.tuple #[]) ∧ StGB K T wv bl cs base b lim w' (joinF f p c d) ∧ Keeps base K (w.drewN q) w') := Lib.hid fun q p c d h1 h2 h3 =>
    set200_any K T wv bl cs g base b lim p c d _ f hT hR.inv hg (HS.out q) (Nat.le_trans hbw (HBE.out q).size) h1 h2 h3 hn (by omega)
  obtain ⟨gr, cr, v1, v2, v3⟩ := hS.view hT hR.inv.len (by omega)
  have HAT : Hid (∀ r c, r < f.s.t.length → c < 2 * g → w.cell? ⟨gr, r, none⟩ = some (.slice (some ⟨bl r, 0, none⟩) m (cs r)) ∧ w.cell? ⟨bl r, c, none⟩ = some (.int .i64 (f.s.t.at r c))) := Lib.hid fun r c h1 h2 => by
    have a2 := v2 r h1
    rw [← hm] at a2
    exact ⟨a2, (v3 r c h1 h2).1⟩
  clear v2 v3
  have HCO : Hid (∀ (x : Int) n, -(g : Int) ≤ x ∧ x ≤ g ∧ x ≠ 0 → Calls Try.prog 218 #[.int .i64 x] (w.drewN n) fun e w' => e = .returned (.int .i64 (col x : Nat)) ∧ w.drewN n = w') := Lib.hid fun x n h => column218_any _ _ (by omega)
  have HLV : Hid (∀ k, k ≤ ws.length → 0 ≤ leadTo f.s.t r ws k → (leadTo f.s.t r ws k).toNat < f.s.t.length) := Lib.hid fun k h1 h2 => (lead_live hR hl hr hlr k h1 h2).1
  have HLB : Hid (∀ k, k ≤ ws.length → 0 ≤ leadTo f.s.t r (Ct.inv ws) k → (leadTo f.s.t r (Ct.inv ws) k).toNat < f.s.t.length) := Lib.hid fun k h1 h2 => (lead_live hR hl.inv hr hlr k (by rw [length_inv]; exact h1) h2).1
  have HCN : Hid (∀ q x y, x < f.s.t.length → y < f.s.t.length → Calls Try.prog 219 #[.pointer (some ⟨b, 0, none⟩), .int .i64 (x : Int), .int .i64 (y : Int)] (w.drewN q) fun e w' => e = .returned (.tuple #[]) ∧ StGB K T wv bl cs base b lim w' (coinF m f x y) ∧ Keeps base K (w.drewN q) w') := Lib.hid fun q x y h1 h2 =>
    coincide219_any K T wv bl cs g m base b lim x y hm _ f hT hR hg1 hg (HS.out q) (Nat.le_trans hbw (HBE.out q).size) h1 h2 hn hkk
  have hgm : m ≤ 32 := by omega
  have hr0 : (0 : Int) ≤ (r : Int) := Int.natCast_nonneg _
  have hn0 : (f.s.t.length : Int) ≤ 1000000 := by omega
  have hws0 : (0 : Int) ≤ (ws.length : Int) := Int.natCast_nonneg _
  have hws1 : (ws.length : Int) ≤ 9223372036854775807 := by omega
  have HRB := Lib.hid (hR.inv.bd)
  clear hS hu hu3 hR hl hm hbw hT
  go_enter Try.func199, Try.ntmps199
  go_wp2_with fail
  go_loopw [9, 10] (fun ff i wr => ∃ k z : Nat, i = .int .i64 k ∧ k ≤ ws.length ∧ ff = .int .i64 (z : Int) ∧ z < f.s.t.length ∧ Hid ((z : Int) = leadTo f.s.t r ws k) ∧ Hid (∀ j, j < k → 0 ≤ leadTo f.s.t r ws (j + 1)) ∧ ∃ q, wr = w.drewN q) (fun _ i _ => ws.length - (intOf i).toNat)
  case atStart => exact ⟨0, r, rfl, by omega, rfl, hr, Lib.hid rfl, Lib.hid fun j hj => absurd hj (by omega), 0, rfl⟩
  case round =>
    obtain ⟨k, z, rfl, hk, rfl, hz, HZ, HJ, q, rfl⟩ := hrel
    have hk0 : (0 : Int) ≤ (k : Int) := Int.natCast_nonneg _
    have hz0 : (0 : Int) ≤ (z : Int) := Int.natCast_nonneg _
    have hzI : (z : Int) < (f.s.t.length : Int) := by omega
    by_cases hlt : k < ws.length
    · have hlt' : (k : Int) < (ws.length : Int) := by omega
      obtain ⟨bw, ow, rfl, hcc⟩ := HU.out (by omega)
      have hcc0 := Lib.hid hcc
      have hck := hcc k hlt
      have hx := HL.out.getD hlt
      have hcx := HL.out.col hlt
      obtain ⟨a2, a3⟩ := HAT.out z (col (ws.getD k 0)) hz hcx
      generalize hbz : bl z = br at *
      have HBZ := Lib.hid hbz
      clear hbz
      generalize cs z = kr at *
      have HNX : Hid (leadTo f.s.t r ws (k + 1) = f.s.t.at z (col (ws.getD k 0))) := Lib.hid (by
        rw [leadTo_succ, ← HZ.out, if_neg (by omega), Int.toNat_natCast])
      have hbd := HRB.out z hz _ hcx
      have HC1 : Hid (∀ n, Calls Try.prog 218 #[.int .i64 (ws.getD k 0)] (w.drewN n) fun e w' => e = .returned (.int .i64 (col (ws.getD k 0) : Nat)) ∧ w.drewN n = w') := Lib.hid fun n => HCO.out _ n hx
      have hc0 : (0 : Int) ≤ ((col (ws.getD k 0) : Nat) : Int) := Int.natCast_nonneg _
      have hc1 : ((col (ws.getD k 0) : Nat) : Int) < (m : Int) := by have := HM.out; omega
      clear hcc hx
      by_cases hy : f.s.t.at z (col (ws.getD k 0)) < 0
      · have HK : Hid (leadTo f.s.t r ws (k + 1) < 0) := Lib.hid (by rw [HNX.out]; exact hy)
        have HF : Hid (fwd f.s.t r ws = k) := Lib.hid (fwd_eq (by omega) (.inr HK.out) HJ.out)
        have d1 : ((k : Int) == (ws.length : Int)) = false := by rw [beq_eq_false_iff_ne]; omega
        have HX0 := Lib.hid hcx
        obtain ⟨hy1, hy2⟩ := hbd
        generalize f.s.t.at z (col (ws.getD k 0)) = y at *
        generalize hce : col (ws.getD k 0) = cx at *
        have HCE := Lib.hid hce
        clear hce
        generalize hxe : ws.getD k 0 = x at *
        have HXQ := Lib.hid hxe
        clear hxe
        go_wp2_with fail
        go_quiet ((go_at_call 218; exact quiet_add_left (HC1.out _)))
        go_wp2_with fail
        go_loopw [11, 12] (fun bb jj wr => ∃ (p v : Nat) (J : Int), p ≤ ws.length ∧ jj = .int .i64 J ∧ J = (ws.length : Int) - 1 - p ∧ bb = .int .i64 (v : Int) ∧ v < f.s.t.length ∧ Hid ((v : Int) = leadTo f.s.t r (Ct.inv ws) p) ∧ Hid (∀ j, j < p → k + j < ws.length ∧ 0 ≤ leadTo f.s.t r (Ct.inv ws) (j + 1)) ∧ ∃ q, wr = w.drewN q) (fun _ j _ => (intOf j + 1).toNat)
        case atStart => exact ⟨0, r, _, by omega, rfl, by omega, rfl, hr, Lib.hid rfl, Lib.hid fun j hj => absurd hj (by omega), (by first | exact ⟨_, rfl⟩ | exact ex_drewN)⟩
        case round =>
          obtain ⟨p, v, J, hp, rfl, hJ, rfl, hv, HV, HP, q2, rfl⟩ := hrel
          have hv0 : (0 : Int) ≤ (v : Int) := Int.natCast_nonneg _
          have hvI : (v : Int) < (f.s.t.length : Int) := by omega
          have hzne : ¬ fwd f.s.t r ws = ws.length := by rw [HF.out]; omega
          by_cases hkp : k + p < ws.length
          · obtain ⟨jn, rfl⟩ : ∃ jn : Nat, J = (jn : Int) := ⟨ws.length - 1 - p, by omega⟩
            have hjn : jn = ws.length - 1 - p := by omega
            have hjl : jn < ws.length := by omega
            have hj0 : (0 : Int) ≤ (jn : Int) := Int.natCast_nonneg _
            have hj1 : (jn : Int) < (ws.length : Int) := by omega
            have hj2 : (k : Int) ≤ (jn : Int) := by omega
            have d3 : decide ((k : Int) ≤ (jn : Int)) = true := decide_eq_true hj2
            have hcj := hcc0.out jn hjl
            have hx2 := HL.out.getD hjl
            have hcx2 : flp (col (ws.getD jn 0)) < 2 * g := flp_lt2 (HL.out.col hjl)
            obtain ⟨b2, b3⟩ := HAT.out v (flp (col (ws.getD jn 0))) hv hcx2
            generalize bl v = br2 at *
            generalize cs v = kr2 at *
            have HNX2 : Hid (leadTo f.s.t r (Ct.inv ws) (p + 1) = f.s.t.at v (flp (col (ws.getD jn 0)))) := Lib.hid (by
              rw [leadTo_succ, ← HV.out, if_neg (by omega), Int.toNat_natCast, inv_getD (by omega), ← hjn, col_inv hx2.2.2])
            have hbd2 := HRB.out v hv _ hcx2
            have HC2 : Hid (∀ n, Calls Try.prog 218 #[.int .i64 (ws.getD jn 0)] (w.drewN n) fun e w' => e = .returned (.int .i64 (col (ws.getD jn 0) : Nat)) ∧ w.drewN n = w') := Lib.hid fun n => HCO.out _ n hx2
            have hcl2 := HL.out.col hjl
            have hfe := flp_eq (col (ws.getD jn 0)) (by have := HM.out; omega)
            have hd0 : (0 : Int) ≤ ((flp (col (ws.getD jn 0)) : Nat) : Int) := Int.natCast_nonneg _
            have hd1 : ((flp (col (ws.getD jn 0)) : Nat) : Int) < (m : Int) := by have := HM.out; omega
            have hd2 : (0 : Int) ≤ ((col (ws.getD jn 0) : Nat) : Int) := Int.natCast_nonneg _
            have hd3 : ((col (ws.getD jn 0) : Nat) : Int) < (m : Int) := by have := HM.out; omega
            clear hcx2 hcl2 hx2
            generalize flp (col (ws.getD jn 0)) = cx2 at *
            generalize col (ws.getD jn 0) = kx2 at *
            generalize ws.getD jn 0 = x2 at *
            obtain ⟨hy3, hy4⟩ := hbd2
            by_cases hyy : f.s.t.at v cx2 < 0
            · have HB : Hid (bwd f.s.t r ws k = p) := Lib.hid (bwd_eq hp (.inr (by rw [HNX2.out]; exact hyy)) HP.out)
              have HBV := Lib.hid HV.out
              have hzz : (leadTo f.s.t r ws k).toNat = z := by rw [← HZ.out]; rfl
              have hvv : (leadTo f.s.t r (Ct.inv ws) p).toNat = v := by rw [← HV.out]; rfl
              have hnle : ¬ ws.length ≤ k + p := by omega
              by_cases hjk : jn = k
              · have HSC : Hid (scanF m f r ws = (joinF f z cx v, none)) := Lib.hid (by
                  unfold scanF
                  rw [if_neg hzne, HF.out, HB.out, if_neg hnle, if_pos (by omega), hzz, hvv, HXQ.out, HCE.out])
                have d4 : ((jn : Int) == (k : Int)) = true := by rw [hjk]; simp
                have d5 : decide ((jn : Int) < (k : Int)) = false := by simp; omega
                have HJ9 := Lib.hid fun q => HJO.out q z cx v hz hv HX0.out
                clear hzne hzz hvv hnle hjn hJ hjk
                go_wp2_with fail
                go_quiet ((go_at_call 218; exact quiet_add_left (HC2.out _)))
                go_wp2_with (first
                  | (go_at_call 218; (with_reducible refine (HC1.out _).mono ?_); rintro E w1 ⟨rfl, rfl⟩)
                  | (go_at_call 200; (with_reducible refine (HJ9.out _).mono ?_); rintro E w1 ⟨rfl, hs1, hb1⟩
                     have HS1 := Lib.hid hs1
                     have HB1 := Lib.hid hb1
                     clear hs1 hb1))
                go_ret3
                exact ⟨by rw [HSC.out]; rfl, by rw [HSC.out]; exact HS1.out, (HBE.out _).trans HB1.out⟩
              · have HSC : Hid (scanF m f r ws = (f, some (z, cx))) := Lib.hid (by
                  unfold scanF
                  rw [if_neg hzne, HF.out, HB.out, if_neg hnle, if_neg (by omega), hzz, HXQ.out, HCE.out])
                have d4 : ((jn : Int) == (k : Int)) = false := by rw [beq_eq_false_iff_ne]; omega
                have d5 : decide ((jn : Int) < (k : Int)) = false := by simp; omega
                clear hzne hzz hvv hnle hjn hJ hjk
                go_wp2_with fail
                go_quiet ((go_at_call 218; exact quiet_add_left (HC2.out _)))
                go_wp2_with (first
                  | (go_at_call 218; (with_reducible refine (HC1.out _).mono ?_); rintro E w1 ⟨rfl, rfl⟩))
                go_ret3
                exact ⟨by rw [HSC.out]; rfl, by rw [HSC.out]; exact HS.out _, HBE.out _⟩
            · obtain ⟨v', hv'⟩ : ∃ v' : Nat, f.s.t.at v cx2 = v' := ⟨(f.s.t.at v cx2).toNat, by omega⟩
              rw [hv'] at b3 HNX2 hy4
              have HJN : Hid ((jn : Int) = (ws.length : Int) - 1 - p) := Lib.hid (by omega)
              clear hyy hv' hjn hJ
              have hv1 : (0 : Int) ≤ (v' : Int) := Int.natCast_nonneg _
              go_wp2_with fail
              go_quiet ((go_at_call 218; exact quiet_add_left (HC2.out _)))
              go_wp2_with fail
              go_quiet ((go_at_call 218; exact quiet_add_left (HC2.out _)))
              go_wp2_with fail
              go_roundw
              case rel => exact ⟨p + 1, v', _, by omega, rfl, by have := HJN.out; omega, rfl, by omega, Lib.hid HNX2.out.symm, Lib.hid (all_succ HP.out ⟨hkp, by rw [HNX2.out]; omega⟩), (by first | exact ⟨_, rfl⟩ | exact ex_drewN)⟩
              case measure => simp [intOf]
          · have HB : Hid (bwd f.s.t r ws k = p) := Lib.hid (bwd_eq hp (.inl (by omega)) HP.out)
            have hzz : (leadTo f.s.t r ws k).toNat = z := by rw [← HZ.out]; rfl
            have hvv : (leadTo f.s.t r (Ct.inv ws) p).toNat = v := by rw [← HV.out]; rfl
            have HSC : Hid (scanF m f r ws = (coinF m f z v, none)) := Lib.hid (by
              unfold scanF
              rw [if_neg hzne, HF.out, HB.out, if_pos (by omega), hzz, hvv])
            have hJk : J < (k : Int) := by omega
            have d3 : decide ((k : Int) ≤ J) = false := by simp; omega
            have d5 : decide (J < (k : Int)) = true := by simp; omega
            have HC3 := Lib.hid fun q => HCN.out q z v hz hv
            clear hzne hzz hvv hkp hJ
            go_wp2_with fail
            go_quiet (fail)
            go_wp2_with (first
              | (go_at_call 218; (with_reducible refine (HC1.out _).mono ?_); rintro E w1 ⟨rfl, rfl⟩)
              | (go_at_call 219; (with_reducible refine (HC3.out _).mono ?_); rintro E w1 ⟨rfl, hs1, hb1⟩
                 have HS1 := Lib.hid hs1
                 have HB1 := Lib.hid hb1
                 clear hs1 hb1))
            go_ret3
            exact ⟨by rw [HSC.out]; rfl, by rw [HSC.out]; exact HS1.out, (HBE.out _).trans HB1.out⟩
      · obtain ⟨z', hz'⟩ : ∃ z' : Nat, f.s.t.at z (col (ws.getD k 0)) = z' := ⟨(f.s.t.at z (col (ws.getD k 0))).toNat, by omega⟩
        rw [hz'] at a3 hbd HNX
        clear hy hz'
        generalize col (ws.getD k 0) = cx at *
        generalize ws.getD k 0 = x at *
        obtain ⟨hy1, hy2⟩ := hbd
        have hz1 : (0 : Int) ≤ (z' : Int) := Int.natCast_nonneg _
        go_wp2_with fail
        go_quiet ((go_at_call 218; exact quiet_add_left (HC1.out _)))
        go_wp2_with fail
        go_quiet ((go_at_call 218; exact quiet_add_left (HC1.out _)))
        go_wp2_with fail
        go_roundw
        case rel => exact ⟨k + 1, z', by go_num, by omega, rfl, by omega, Lib.hid HNX.out.symm, all_succ HJ.out (by rw [HNX.out]; omega), (by first | exact ⟨_, rfl⟩ | exact ex_drewN)⟩
        case measure => simp [intOf]; omega
    · obtain rfl : k = ws.length := by omega
      have HF : Hid (fwd f.s.t r ws = ws.length) := Lib.hid (fwd_eq (Nat.le_refl _) (.inl rfl) HJ.out)
      by_cases hzr : z = r
      · have HSC : Hid (scanF m f r ws = (f, none)) := Lib.hid (by unfold scanF; rw [if_pos HF.out, HF.out, ← HZ.out, if_pos (by rw [hzr])])
        have d1 : ((z : Int) != (r : Int)) = false := by rw [hzr]; simp
        have d2 : ((ws.length : Int) == (ws.length : Int)) = true := by simp
        clear hlt
        go_wp2_with fail
        go_quiet (fail)
        go_wp2_with fail
        go_ret3
        exact ⟨by rw [HSC.out]; rfl, by rw [HSC.out]; exact HS.out _, HBE.out _⟩
      · have HSC : Hid (scanF m f r ws = (coinF m f z r, none)) := Lib.hid (by unfold scanF; rw [if_pos HF.out, HF.out, ← HZ.out, if_neg (by omega), Int.toNat_natCast])
        have d1 : ((z : Int) != (r : Int)) = true := by simp; omega
        have d2 : ((ws.length : Int) == (ws.length : Int)) = true := by simp
        clear hlt
        have HC2 := Lib.hid fun q => HCN.out q z r hz hr
        go_wp2_with fail
        go_quiet (fail)
        go_wp2_with (first
          | (go_at_call 219; (with_reducible refine (HC2.out _).mono ?_); rintro E w1 ⟨rfl, hs1, hb1⟩
             have HS1 := Lib.hid hs1
             have HB1 := Lib.hid hb1
             clear hs1 hb1))
        go_ret3
        exact ⟨by rw [HSC.out]; rfl, by rw [HSC.out]; exact HS1.out, (HBE.out _).trans HB1.out⟩
end Go.Proofs
namespace Go.Proofs
open Go.RowKit Go.Shelf Go.Proofs.Ct Go.Maps
set_option maxRecDepth 100000 in
theorem letter149_any (w : World) (c : Nat) (hc : c ≤ 1000) : Calls Try.prog 149 #[.int .i64 (c : Int)] w fun e w' => e = .returned (.int .i64 (letter c)) ∧ w = w' := by
  have hc0 : (0 : Int) ≤ (c : Int) := Int.natCast_nonneg _
  have hc1 : (c : Int) ≤ 1000 := by omega
  by_cases h : (c : Int) % 2 = 0
  · have HL : Hid (letter c = (c : Int) / 2 + 1) := Lib.hid (by
      unfold letter
      rw [if_neg (by omega)]; omega)
    have h2 : (0 : Int) ≤ (c : Int) / 2 := by omega
    have h3 : (c : Int) / 2 ≤ 500 := by omega
    have d1 : ((c : Int) % 2 == 0) = true := by rw [h]; rfl
    generalize letter c = l at *
    go_enter Try.func149, Try.ntmps149
    go_wp2_with fail
    go_ret
    exact ⟨ret_int HL.out.symm, (by first | trivial | rfl)⟩
  · have HL : Hid (letter c = -((c : Int) / 2 + 1)) := Lib.hid (by
      unfold letter
      rw [if_pos (by omega)]; omega)
    have h2 : (0 : Int) ≤ (c : Int) / 2 := by omega
    have h3 : (c : Int) / 2 ≤ 500 := by omega
    have d1 : ((c : Int) % 2 == 0) = false := by rw [beq_eq_false_iff_ne]; exact h
    generalize letter c = l at *
    go_enter Try.func149, Try.ntmps149
    go_wp2_with fail
    go_ret
    exact ⟨ret_int HL.out.symm, (by first | trivial | rfl)⟩
theorem take_snocI (xs : List Int) {k : Nat} (h : k < xs.length) : xs.take (k + 1) = xs.take k ++ [xs.getD k 0] := by
  rw [List.take_add_one, List.getD_eq_getElem?_getD, List.getElem?_eq_getElem h]; rfl
set_option maxRecDepth 100000 in
set_option maxHeartbeats 1000000 in
theorem inverse193_any (w : World) (v : Value) (xs : List Int) (h : IntsAt w v xs) (hl : xs.length ≤ 1000000) (hm : ∀ x ∈ xs, Mild x) : Calls Try.prog 193 #[v] w fun e w' => ∃ A c, e = .returned (.slice A xs.length c) ∧ OwnI w.heap.size w' (.slice A xs.length c) (Ct.inv xs) ∧ Below w.heap.size w w' := by
  obtain ⟨A, c, rfl, hc1, hc2, hc⟩ := h.open_
  have HC := Lib.hid hc
  have hli : (Ct.inv xs).length = xs.length := length_inv xs
  have HLI := Lib.hid hli
  have HG : Hid (∀ k, k < xs.length → (Ct.inv xs).getD k 0 = -(xs.getD (xs.length - 1 - k) 0)) := Lib.hid fun k hk => inv_getD hk
  have HMI : Hid (∀ k, k < xs.length → -4611686018427387903 ≤ xs.getD k 0 ∧ xs.getD k 0 ≤ 4611686018427387903) := Lib.hid fun k hk => by
    have h1 : Mild (xs.getD k 0) := hm (xs.getD k 0) (by rw [List.getD_eq_getElem?_getD, List.getElem?_eq_getElem hk]; exact List.getElem_mem hk)
    unfold Mild at h1
    omega
  have HTS : Hid (∀ k, k < xs.length → (Ct.inv xs).take (k + 1) = (Ct.inv xs).take k ++ [-(xs.getD (xs.length - 1 - k) 0)]) := Lib.hid fun k hk => by
    rw [take_snocI _ (by rw [hli]; exact hk), inv_getD hk]
  have hx0 : (0 : Int) ≤ (xs.length : Int) := Int.natCast_nonneg _
  have hx1 : (xs.length : Int) ≤ 1000000 := by omega
  clear h hc hl hm hli
  generalize hq : Ct.inv xs = ys at *
  clear hq
  go_enter Try.func193, Try.ntmps193
  go_wp2_with fail
  go_loopw [3, 4] (fun o i wr => ∃ (k : Nat) (A : Option Addr) (c : Nat) (j : Int), i = .int .i64 j ∧ j = (xs.length : Int) - 1 - k ∧ k ≤ xs.length ∧ o = .slice A k c ∧ Hid (OwnI w.heap.size wr (.slice A k c) (ys.take k)) ∧ Hid (Below w.heap.size w wr)) (fun _ i _ => (intOf i + 1).toNat)
  case atStart => exact ⟨0, none, 0, _, rfl, by omega, Nat.zero_le _, rfl, Lib.hid (World.ownsRow_nil _ _ _ _), Lib.hid (Below.refl _ _)⟩
  case round =>
    obtain ⟨k, Ak, ck, j, rfl, hj, hk, rfl, HO, HB⟩ := hrel
    by_cases hlt : k < xs.length
    · obtain ⟨jn, rfl⟩ : ∃ jn : Nat, j = (jn : Int) := ⟨xs.length - 1 - k, by omega⟩
      have hjn : jn = xs.length - 1 - k := by omega
      have hj0 : (0 : Int) ≤ (jn : Int) := Int.natCast_nonneg _
      have hj1 : (jn : Int) < (xs.length : Int) := by omega
      obtain ⟨b, o, rfl, hcc⟩ := HC.out (by omega)
      have hcw := hcc jn (by omega)
      have hck := (HB.out.cell (p := ⟨b, o + jn, none⟩) (World.block_lt_of_cell? w _ hcw)).trans hcw
      obtain ⟨hm1, hm2⟩ := HMI.out jn (by omega)
      have htk : (ys.take k).length = k := by rw [List.length_take, HLI.out]; omega
      obtain ⟨A', c', w', hr, ho, hg, hw⟩ := push_int 25 25 Try.underlying25 wr w.heap.size _ _ HO.out (-(xs.getD jn 0)) (by rw [htk]; omega) HB.out.size
      rw [htk] at hr ho
      have hts := HTS.out k hlt
      rw [← hjn] at hts
      rw [← hts] at ho
      have HR := Lib.hid hr
      have HO2 := Lib.hid ho
      have HB2 := Lib.hid (HB.out.grown hg HB.out.size (fun r hr => (owns_block HO.out r hr).1))
      have HJN : Hid ((jn : Int) = (xs.length : Int) - 1 - k) := Lib.hid hj
      clear hcc hcw hr ho hg hw hts hjn hj htk
      generalize xs.getD jn 0 = x at *
      go_wp2_with ((with_reducible refine wpList_sel 19 ?_); refine wpList_val rfl (r_app (.tmp 12) (.tmp 18) 25 rfl rfl rfl HR.out) ?_)
      go_roundw
      case rel => exact ⟨k + 1, A', c', _, rfl, by have := HJN.out; omega, by omega, rfl, HO2, HB2⟩
      case measure => simp [intOf]
    · obtain rfl : k = xs.length := by omega
      have hjm : j = -1 := by omega
      subst hjm
      have HOE : Hid (OwnI w.heap.size wr (.slice Ak xs.length ck) ys) := Lib.hid (by
        have h := HO.out
        rwa [List.take_of_length_le (by rw [HLI.out]; omega)] at h)
      clear hlt hj
      go_wp2_with fail
      go_ret
      exact ⟨Ak, ck, rfl, HOE.out, HB.out⟩
set_option maxRecDepth 100000 in
set_option maxHeartbeats 400000 in
theorem same213_any (w : World) (va vb : Value) (x y : List Int) (ha : IntsAt w va x) (hb : IntsAt w vb y) :
    Calls Try.prog 213 #[va, vb] w fun e w' => e = .returned (.bool (decide (x = y))) ∧ ∃ q, w' = w.drewN q := by
  obtain ⟨A3, c3, rfl, hd1, hd2, hd⟩ := ha.open_
  obtain ⟨A4, c4, rfl, he1, he2, he⟩ := hb.open_
  have HD := Lib.hid hd
  have HE := Lib.hid he
  clear ha hb hd he
  have HN := Lib.hid (fun (h : x.length ≠ y.length) (e : x = y) => h (by rw [e]))
  by_cases hxy : x.length = y.length
  · have d3 : ((x.length : Int) != (y.length : Int)) = false := by simp; omega
    have d4 : (x.length != y.length) = false := by simp; omega
    have HX := Lib.hid hxy
    clear hxy
    go_enter Try.func213, Try.ntmps213
    go_wp2_with fail
    go_loopw [5] (fun i wr => ∃ j : Nat, j ≤ x.length ∧ i = .int .i64 j ∧ (∀ t, t < j → x.getD t 0 = y.getD t 0) ∧ ∃ q, wr = w.drewN q) (fun i _ => x.length - (intOf i).toNat)
    case atStart => exact ⟨0, Nat.zero_le _, rfl, fun j hj => absurd hj (by omega), 0, rfl⟩
    case round =>
      obtain ⟨j, hj, rfl, hzj, qj, rfl⟩ := hrel
      have HZJ := Lib.hid hzj
      clear hzj
      by_cases hjl : j < x.length
      · obtain ⟨b3, o3, rfl, hx⟩ := HD.out (by omega)
        obtain ⟨b4, o4, rfl, hy⟩ := HE.out (by rw [← HX.out]; omega)
        have hx1 := hx j hjl
        have hy1 := hy j (by rw [← HX.out]; omega)
        have hj0 : (0 : Int) ≤ (j : Int) := Int.natCast_nonneg _
        have hjb : (j : Int) < (y.length : Int) := by rw [← HX.out]; omega
        have hja : (j : Int) < (x.length : Int) := by omega
        have HM := Lib.hid (fun h => getD_ne (A := x) (B := y) (d := 0) (k := j) h)
        clear hx hy
        generalize hse : x.getD j 0 = s at *
        generalize hte : y.getD j 0 = t at *
        have HSE := Lib.hid hse
        have HTE := Lib.hid hte
        clear hse hte
        by_cases hst : s = t
        · have d5 : (s != t) = false := by simpa using hst
          have HS := Lib.hid hst
          clear hst
          go_wp2_with fail
          go_quiet (fail)
          go_wp2_with fail
          go_roundw
          case rel => exact ⟨j + 1, by omega, by go_num, all_succ HZJ.out (by rw [HSE.out, HTE.out]; exact HS.out), (by first | exact ⟨_, rfl⟩ | exact ex_drewN)⟩
          case measure => simp [intOf]; omega
        · have d5 : (s != t) = true := by simpa using hst
          have HS := Lib.hid hst
          clear hst
          go_wp2_with fail
          go_quiet (fail)
          go_wp2_with fail
          go_ret
          exact ⟨ret_bool (by simpa using HM.out HS.out), (by first | exact ⟨_, rfl⟩ | exact ex_drewN)⟩
      · obtain rfl : j = x.length := by omega
        go_wp2_with fail
        go_ret
        exact ⟨ret_bool (by simpa using getD_ext HX.out HZJ.out), (by first | exact ⟨_, rfl⟩ | exact ex_drewN)⟩
  · have d3 : ((x.length : Int) != (y.length : Int)) = true := by simp; omega
    have d4 : (x.length != y.length) = true := by simp; omega
    have HX := Lib.hid hxy
    clear hxy
    go_enter Try.func213, Try.ntmps213
    go_wp2_with fail
    go_ret
    exact ⟨ret_bool (by simpa using HN.out HX.out), 0, rfl⟩
end Go.Proofs
namespace Go.Proofs
open Go.RowKit Go.Shelf Go.Maps
theorem run_append_none (w : World) (base : Nat) (t ty e : TypeId) (i : TypeInfo) (ht : Try.prog.underlying t = some (.slice e)) (hi : Try.prog.info? e = some i) (_hs : i.size = 1)
    (v : Value) (n : Nat) (xs : List Value) (cap : Nat) (hown : w.ownsRow base e 1 v n xs) : (Builtin.append_ #[t, t] ty #[v, .slice none 0 cap]).run Try.prog w = .ok v w := by
  rcases hown.2 with ⟨rfl, rfl⟩ | ⟨g, cap', cur, rfl, -, hg, hnc, hcm, hcs, htake⟩
  · simp [Builtin.append_, run_underlying ht, sizeOf, typeInfo, hi, Builtin.lenOf, Builtin.firstCells]
  · simp [Builtin.append_, run_underlying ht, sizeOf, typeInfo, hi, Builtin.lenOf, Builtin.firstCells, hnc, storeCells]
/-- append(v, u...): v is of the call's own, u is read -/
theorem run_app {t ty e : TypeId} {z : Value} {bytes : Nat} (ht : Try.prog.underlying t = some (.slice e)) (hi : ∃ i, Try.prog.info? e = some i ∧ i.zero = some z ∧ i.size = 1 ∧ i.bytes = bytes) (hz : z.cells.size = 1) (hby : bytes ≤ 1000)
    (w : World) (base : Nat) (v : Value) (n : Nat) (xs : List Value) (hown : w.ownsRow base e 1 v n xs) (u : Value) (ys : List Value) (hu : Sl w u ys) (h1 : ∀ y ∈ ys, y.oneCell' = true) (hn : n ≤ 1000000) (hm : ys.length ≤ 1000000) (hb : base ≤ w.heap.size) :
    ∃ A' c' w', (Builtin.append_ #[t, t] ty #[v, u]).run Try.prog w = .ok (.slice A' (n + ys.length) c') w' ∧ w'.ownsRow base e 1 (.slice A' (n + ys.length) c') (n + ys.length) (xs ++ ys) ∧
      w.grownBy w' v.ownBlock ∧ ((Value.slice A' (n + ys.length) c').ownBlock = v.ownBlock ∨ ∃ r, (Value.slice A' (n + ys.length) c').ownBlock = some r ∧ w.heap.size ≤ r) := by
  obtain ⟨i, hi, hz', hs, hb'⟩ := hi
  obtain ⟨A, m, cap, rfl, hl, hc1, hc2, hcells⟩ := hu
  cases A with
  | none =>
    have hm0 : ys = [] := by
      rcases Nat.eq_zero_or_pos m with h0 | h0
      · exact List.length_eq_zero_iff.1 (by omega)
      · obtain ⟨_, _, h, -⟩ := hcells h0; cases h
    subst hm0
    obtain ⟨A', c', rfl⟩ := owns_form hown
    have hm1 : m = 0 := hl
    subst hm1
    exact ⟨A', c', w, run_append_none w base t ty e i ht hi hs _ n xs cap hown, by simpa using hown, World.grownBy.refl w _, .inl rfl⟩
  | some a =>
    obtain ⟨v', w', hr, hown', hg, -, hw⟩ := run_append_own_at (P := Try.prog) w base t ty e i z 1 bytes ht hi hz' hs hb' hz (by omega) v n xs hown a m cap ys (by omega) (fun j y hy => by
        have hj := (List.getElem?_eq_some_iff.1 hy).1
        obtain ⟨b, off, ha, hr⟩ := hcells (by omega)
        rw [Option.some.inj ha]
        have h3 := hr j y hy
        rcases Nat.eq_zero_or_pos j with h0 | h0
        · subst h0; simpa [Addr.add] using h3
        · simpa [Addr.add, show j ≠ 0 by omega] using h3) h1 (by unfold maxLen; omega)
      (by have : (n + m) * bytes ≤ 2000000 * 1000 := Nat.mul_le_mul (by omega) hby
          omega) hb
    obtain ⟨A', c', rfl⟩ := owns_form hown'
    have hm1 : m = ys.length := by omega
    subst hm1
    refine ⟨A', c', w', hr, hown', hg, ?_⟩
    rcases hw with hw | hw
    · exact .inl hw
    · exact .inr ⟨_, hw, Nat.le_refl _⟩
theorem app_ints (ty t : TypeId) (ht : Try.prog.underlying t = some (.slice 3)) (w : World) (base : Nat) (v : Value) (xs : List Int) (h : OwnI base w v xs) (u : Value) (ys : List Int) (hu : IntsAt w u ys) (hx : xs.length ≤ 1000000) (hy : ys.length ≤ 1000000) (hb : base ≤ w.heap.size) :
    ∃ A' c' w', (Builtin.append_ #[t, t] ty #[v, u]).run Try.prog w = .ok (.slice A' (xs ++ ys).length c') w' ∧ OwnI base w' (.slice A' (xs ++ ys).length c') (xs ++ ys) ∧
      w.grownBy w' v.ownBlock ∧ ((Value.slice A' (xs ++ ys).length c').ownBlock = v.ownBlock ∨ ∃ r, (Value.slice A' (xs ++ ys).length c').ownBlock = some r ∧ w.heap.size ≤ r) := by
  obtain ⟨A', c', w', hr, ho, hg, hw⟩ := run_app (ty := ty) ht info3p rfl (by omega) w base v xs.length (ints xs) h u (ints ys) hu.1 (fun y hy => by
    obtain ⟨z, -, rfl⟩ := List.mem_map.1 hy; rfl) hx (by rw [length_ints]; exact hy) hb
  rw [length_ints] at hr ho hw
  refine ⟨A', c', w', by rw [List.length_append]; exact hr, ?_, hg, by rw [List.length_append]; exact hw⟩
  show w'.ownsRow base 3 1 _ (xs ++ ys).length (ints (xs ++ ys))
  rw [ints_app, List.length_append]
  exact ho
end Go.Proofs
