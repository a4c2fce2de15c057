/- column, Reverse, inverse of felsch (printed by genX7.py); The cosets of Felsch's strategy: walk; The reference of Felsch's strategy: letter, inverse, same; append of one list to another of the call's own; A region that draws its order: what its slots hold lies in blocks of their own (footprints); some are written again by the operation that takes them; What the slots of a drawn region hold, each in blocks of its own (for the law of T2); plain; the reference's Images; Words that numbers select: Turn, Letter, WordOf. -/
import Derived.Test.YtmpnengjboabcaaFtCS11
import Derived.Test.YtmpnengjboabcaaFtCS5
import Derived.Test.YtmpnengjboabcaaFtCS6
import Derived.Test.YtmpnengjboabcaaFtCS10
import Derived.Test.YtmpnengjboabcaaFtCS8
import Derived.Test.YtmpnengjboabcaaFtCS3
import Derived.Test.YtmpnengjboabcaaFtCS7
import Derived.Test.YtmpnengjboabcaaFtCS4
namespace Go.Proofs.Ct
def revTo (xs : List Int) (k : Nat) : List Int := foldTo (fun k l => (l.set k (l.getD (xs.length - 1 - k) 0)).set (xs.length - 1 - k) (l.getD k 0)) k xs
theorem revTo_succ (xs : List Int) (k : Nat) : revTo xs (k + 1) = ((revTo xs k).set k ((revTo xs k).getD (xs.length - 1 - k) 0)).set (xs.length - 1 - k) ((revTo xs k).getD k 0) := rfl
theorem length_revTo (xs : List Int) : ∀ k, (revTo xs k).length = xs.length
  | 0 => rfl
  | k + 1 => by rw [revTo_succ, List.length_set, List.length_set, length_revTo xs k]
theorem getD_set1 {l : List Int} {k : Nat} {x : Int} (hk : k < l.length) (i : Nat) : (l.set k x).getD i 0 = if i = k then x else l.getD i 0 := by
  rw [List.getD_eq_getElem?_getD, List.getElem?_set]
  by_cases h : k = i
  · subst h
    rw [if_pos rfl, if_pos rfl]
    simp [hk]
  · rw [if_neg h, if_neg (fun e => h e.symm), List.getD_eq_getElem?_getD]
theorem revTo_getD (xs : List Int) : ∀ k, 2 * k ≤ xs.length → ∀ i, i < xs.length → (revTo xs k).getD i 0 = if i < k ∨ xs.length ≤ i + k then xs.getD (xs.length - 1 - i) 0 else xs.getD i 0
  | 0, _, i, hi => by rw [if_neg (by omega)]; rfl
  | k + 1, hk, i, hi => by
    have ih := revTo_getD xs k (by omega)
    have hl := length_revTo xs k
    rw [revTo_succ, getD_set1 (by rw [List.length_set]; omega), getD_set1 (by omega), ih k (by omega), ih (xs.length - 1 - k) (by omega), ih i hi]
    rw [if_neg (by omega : ¬ (k < k ∨ xs.length ≤ k + k)), if_neg (by omega : ¬ (xs.length - 1 - k < k ∨ xs.length ≤ xs.length - 1 - k + k))]
    by_cases h1 : i = xs.length - 1 - k
    · rw [if_pos h1, if_pos (by omega), h1, show xs.length - 1 - (xs.length - 1 - k) = k by omega]
    · rw [if_neg h1]
      by_cases h2 : i = k
      · rw [if_pos h2, if_pos (by omega), h2]
      · rw [if_neg h2]
        by_cases h3 : i < k ∨ xs.length ≤ i + k
        · rw [if_pos h3, if_pos (by omega)]
        · rw [if_neg h3, if_neg (by omega)]
theorem revTo_all (xs : List Int) {k : Nat} (h1 : 2 * k ≤ xs.length) (h2 : xs.length ≤ 2 * k + 1) : revTo xs k = xs.reverse := by
  refine List.ext_getElem? fun i => ?_
  have hl := length_revTo xs k
  rcases Nat.lt_or_ge i xs.length with hi | hi
  · have h := revTo_getD xs k h1 i hi
    rw [List.getD_eq_getElem?_getD, List.getElem?_eq_getElem (by omega)] at h
    rw [List.getElem?_eq_getElem (by omega), List.getElem?_eq_getElem (by simpa using hi), List.getElem_reverse]
    have e : xs.getD (xs.length - 1 - i) 0 = xs[xs.length - 1 - i] := by rw [List.getD_eq_getElem?_getD, List.getElem?_eq_getElem (by omega)]; rfl
    have e2 : xs.getD i 0 = xs[i] := by rw [List.getD_eq_getElem?_getD, List.getElem?_eq_getElem hi]; rfl
    simp only [Option.getD_some] at h
    rw [h]
    split
    · rw [e]
    · congr 1
      rw [e2]
      congr 1
      omega
  · rw [List.getElem?_eq_none (by omega), List.getElem?_eq_none (by simpa using hi)]
def negTo (xs : List Int) (k : Nat) : List Int := foldTo (fun k l => l.set k (-(l.getD k 0))) k xs
theorem negTo_succ (xs : List Int) (k : Nat) : negTo xs (k + 1) = (negTo xs k).set k (-((negTo xs k).getD k 0)) := rfl
theorem length_negTo (xs : List Int) : ∀ k, (negTo xs k).length = xs.length
  | 0 => rfl
  | k + 1 => by rw [negTo_succ, List.length_set, length_negTo xs k]
theorem negTo_getD (xs : List Int) : ∀ k, k ≤ xs.length → ∀ i, (negTo xs k).getD i 0 = if i < k then -(xs.getD i 0) else xs.getD i 0
  | 0, _, i => rfl
  | k + 1, hk, i => by
    have ih := negTo_getD xs k (by omega)
    rw [negTo_succ, getD_set1 (by rw [length_negTo]; omega), ih k, ih i, if_neg (Nat.lt_irrefl k)]
    by_cases h1 : i = k
    · rw [if_pos h1, if_pos (by omega), h1]
    · rw [if_neg h1]
      by_cases h2 : i < k
      · rw [if_pos h2, if_pos (by omega)]
      · rw [if_neg h2, if_neg (by omega)]
theorem negTo_all (xs : List Int) : negTo xs xs.length = xs.map fun x => -x := by
  refine List.ext_getElem? fun i => ?_
  have hl := length_negTo xs xs.length
  rcases Nat.lt_or_ge i xs.length with hi | hi
  · have h := negTo_getD xs xs.length (Nat.le_refl _) i
    rw [if_pos hi, List.getD_eq_getElem?_getD, List.getD_eq_getElem?_getD, List.getElem?_eq_getElem (by omega), List.getElem?_eq_getElem hi] at h
    rw [List.getElem?_eq_getElem (by omega), List.getElem?_map, List.getElem?_eq_getElem hi]
    exact congrArg some h
  · rw [List.getElem?_eq_none (by omega), List.getElem?_eq_none (by simpa using hi)]
end Go.Proofs.Ct
namespace Go.Proofs
open Go.RowKit Go.Shelf Go.Proofs.Ct Go.Maps
set_option maxRecDepth 100000 in
theorem column217_any (w : World) (x : Int) (h : -16 ≤ x ∧ x ≤ 16 ∧ x ≠ 0) : Calls Try.prog 217 #[.int .i64 x] w fun e w' => e = .returned (.int .i64 (col x : Nat)) ∧ w = w' := by
  obtain ⟨h1, h2, h3⟩ := h
  by_cases h : x < 0
  · have HC : Hid (((col x : Nat) : Int) = -2 * x - 1) := Lib.hid (by unfold col; split <;> omega)
    go_enter Try.func217, Try.ntmps217
    go_wp2_with fail
    go_ret
    exact ⟨ret_int HC.out.symm, rfl⟩
  · have HC : Hid (((col x : Nat) : Int) = 2 * x - 2) := Lib.hid (by unfold col; split <;> omega)
    have h4 : 0 < x := by omega
    clear h
    go_enter Try.func217, Try.ntmps217
    go_wp2_with fail
    go_ret
    exact ⟨ret_int HC.out.symm, rfl⟩
set_option maxRecDepth 100000 in
set_option maxHeartbeats 2000000 in
theorem reverse212_any (base : Nat) (w : World) (v : Value) (xs : List Int) (ho : OwnI base w v xs) (hl : xs.length ≤ 1000000) (hbw : base ≤ w.heap.size) :
    Calls Try.prog 212 #[v] w fun e w' => e = .returned (.tuple #[]) ∧ OwnI base w' v xs.reverse ∧ Below base w w' := by
  have HO := Lib.hid ho
  have HBW := Lib.hid hbw
  have hl0 : (xs.length : Int) ≤ 1000000 := by omega
  have hl1 : (0 : Int) ≤ (xs.length : Int) := Int.natCast_nonneg _
  rcases Nat.eq_zero_or_pos xs.length with h0 | h0
  · obtain ⟨A, c0, rfl⟩ := owns_form ho
    have hx : xs = [] := List.length_eq_zero_iff.1 h0
    subst hx
    clear ho
    go_enter Try.func212, Try.ntmps212
    go_wp2_with fail
    go_loopw [2, 3] (fun i j wr => i = .int .i64 0 ∧ j = .int .i64 (-1) ∧ wr = w) (fun i _ _ => 0)
    case atStart => exact ⟨rfl, rfl, rfl⟩
    case round =>
      obtain ⟨rfl, rfl, rfl⟩ := hrel
      go_wp2_with fail
      go_end0
      exact ⟨rfl, HO.out, Below.refl _ _⟩
  · obtain ⟨q, c0, rfl, hqb, -, -, -⟩ := ownI_cell ho h0
    clear ho
    go_enter Try.func212, Try.ntmps212
    go_wp2_with fail
    go_loopw [2, 3] (fun i j wr => ∃ (k : Nat) (J : Int), i = .int .i64 (k : Int) ∧ j = .int .i64 J ∧ J = (xs.length : Int) - 1 - k ∧ 2 * k ≤ xs.length ∧ Hid (OwnI base wr (.slice (some ⟨q, 0, none⟩) xs.length c0) (revTo xs k)) ∧ Hid (Below base w wr)) (fun i _ _ => xs.length - (intOf i).toNat)
    case atStart => exact ⟨0, _, rfl, rfl, by omega, by omega, HO, Lib.hid (Below.refl _ _)⟩
    case round =>
      obtain ⟨k, J, rfl, rfl, hJ, hk, HV, HB⟩ := hrel
      have hk0 : (0 : Int) ≤ (k : Int) := Int.natCast_nonneg _
      by_cases hlt : (k : Int) < J
      · obtain ⟨j, rfl⟩ : ∃ j : Nat, J = (j : Int) := ⟨J.toNat, by omega⟩
        have hjl : j < xs.length := by omega
        have hkl : k < xs.length := by omega
        have hj : j = xs.length - 1 - k := by omega
        have hjI : (j : Int) < (xs.length : Int) := by omega
        have hkI : (k : Int) < (xs.length : Int) := by omega
        have HR : OwnI base wr.drew (.slice (some ⟨q, 0, none⟩) xs.length c0) (revTo xs k) := owns_below HV.out (Below.refl _ _).drew
        have hlr := length_revTo xs k
        have hc1 := ownI_at HR (k := k) (by omega)
        have hc2 := ownI_at HR (k := j) (by omega)
        have hn1 := ownI_set HR (g := q) rfl (k := k) (by omega) ((revTo xs k).getD j 0)
        have hc3 := ownI_at hn1 (k := j) (by rw [List.length_set]; omega)
        have hn2 := ownI_set hn1 (g := q) rfl (k := j) (by rw [List.length_set]; omega) ((revTo xs k).getD k 0)
        have hst := revTo_succ xs k
        rw [← hj] at hst
        rw [← hst] at hn2
        have HN := Lib.hid hn2
        have HBE : Hid (Below base w ((wr.drew.setCell ⟨q, k, none⟩ (.int .i64 ((revTo xs k).getD j 0))).setCell ⟨q, j, none⟩ (.int .i64 ((revTo xs k).getD k 0)))) := Lib.hid ((HB.out.drew.setCell hqb _).setCell hqb _)
        have HCK := Lib.hid hc1.1
        have HFK := Lib.hid hc1.2
        have HCJ := Lib.hid hc2.1
        have HCJ2 := Lib.hid hc3.1
        have HFJ2 := Lib.hid hc3.2
        clear hc1 hc2 hc3 hn1 hn2 hst HR hlr HV
        generalize ((revTo xs k).set k ((revTo xs k).getD j 0)).getD j 0 = z at *
        generalize (revTo xs k).getD j 0 = y at *
        generalize (revTo xs k).getD k 0 = x at *
        go_wp2_with fail
        refine (wpIn_wide (n := 3)).1 ?_
        refine wpIn_region_all (by kernel_rfl) 16 rfl (fun i => if i < 13 then some (14 + i) else if i = 13 then none else if i = 14 then some 27 else none) (lex_of (by kernel_rfl)) (fun ls W => W = bif ls 15 then (wr.drew.setCell ⟨q, k, none⟩ (.int .i64 y)).setCell ⟨q, j, none⟩ (.int .i64 x) else bif ls 13 then wr.drew.setCell ⟨q, k, none⟩ (.int .i64 y) else wr.drew)
          (fun i v _ => v = ([.slice (some ⟨q, 0, none⟩) xs.length c0, .int .i64 (k : Int), .slice (some ⟨q, 0, none⟩) xs.length c0, .int .i64 (j : Int), .slice (some ⟨q, 0, none⟩) xs.length c0, .int .i64 (j : Int), .pointer (some ⟨q, j, none⟩), .int .i64 y, .slice (some ⟨q, 0, none⟩) xs.length c0, .int .i64 (k : Int), .pointer (some ⟨q, k, none⟩), .int .i64 x, .pointer (some ⟨q, k, none⟩), undef, .pointer (some ⟨q, j, none⟩), undef] : List Value).getD i undef) (fun _ _ _ => True) (dm_inj (by kernel_rfl)) (fun _ _ _ _ _ _ _ _ _ h => h) (dm_lt (n := 28) (by kernel_rfl)) rfl ?_ ?_
        · intro ls q o a w2 hq ho hS2 hls hcl hP hpre
          have hcases : q = 0 ∨ q = 1 ∨ q = 2 ∨ q = 3 ∨ q = 4 ∨ q = 5 ∨ q = 6 ∨ q = 7 ∨ q = 8 ∨ q = 9 ∨ q = 10 ∨ q = 11 ∨ q = 12 ∨ q = 13 ∨ q = 14 ∨ q = 15 := by
            have : q < 16 := hq
            omega
          rcases hcases with rfl | rfl | rfl | rfl | rfl | rfl | rfl | rfl | rfl | rfl | rfl | rfl | rfl | rfl | rfl | rfl
          · obtain rfl := Option.some.inj ho
            exact wpOpIn_of rfl rfl (wpW_val (r_move (.tmp 0) rfl (hP.out 0 (dm_out (by kernel_rfl)))) ⟨_, rfl, hS2, trivial, (fun h => by simp at h), rfl⟩)
          · obtain rfl := Option.some.inj ho
            exact wpOpIn_of rfl rfl (wpW_val (r_move (.tmp 2) rfl (hP.out 2 (dm_out (by kernel_rfl)))) ⟨_, rfl, hS2, trivial, (fun h => by simp at h), rfl⟩)
          · obtain rfl := Option.some.inj ho
            exact wpOpIn_of rfl rfl (wpW_val (r_move (.tmp 0) rfl (hP.out 0 (dm_out (by kernel_rfl)))) ⟨_, rfl, hS2, trivial, (fun h => by simp at h), rfl⟩)
          · obtain rfl := Option.some.inj ho
            exact wpOpIn_of rfl rfl (wpW_val (r_move (.tmp 3) rfl (hP.out 3 (dm_out (by kernel_rfl)))) ⟨_, rfl, hS2, trivial, (fun h => by simp at h), rfl⟩)
          · obtain rfl := Option.some.inj ho
            exact wpOpIn_of rfl rfl (wpW_val (r_move (.tmp 0) rfl (hP.out 0 (dm_out (by kernel_rfl)))) ⟨_, rfl, hS2, trivial, (fun h => by simp at h), rfl⟩)
          · obtain rfl := Option.some.inj ho
            exact wpOpIn_of rfl rfl (wpW_val (r_move (.tmp 3) rfl (hP.out 3 (dm_out (by kernel_rfl)))) ⟨_, rfl, hS2, trivial, (fun h => by simp at h), rfl⟩)
          · obtain rfl := Option.some.inj ho
            exact wpOpIn_of rfl rfl (wpW_val (r_idx (.tmp 18) (.tmp 19) _ _ rfl (hpre ⟨4, .data⟩ (by simp) rfl).2 (hpre ⟨5, .data⟩ (by simp) rfl).2 (idx_sl Try.underlying25 size3 q _ c0 j hjl _)) ⟨_, rfl, hS2, trivial, (fun h => by simp at h), rfl⟩)
          · obtain rfl := Option.some.inj ho
            have h15 := not_yet hcl 15 rfl ⟨7, .phase⟩ (by simp) rfl hls
            have h13 := not_yet hcl 13 rfl ⟨7, .phase⟩ (by simp) rfl hls
            have hw := sel3 hS2 h15 h13
            subst hw
            exact wpOpIn_of rfl rfl (wpW_val (r_load1 3 agg3 (.tmp 20) ⟨q, j, none⟩ rfl (hpre ⟨6, .data⟩ (by simp) rfl).2 HCJ.out) ⟨_, rfl, hS2, trivial, (fun h => by simp at h), rfl⟩)
          · obtain rfl := Option.some.inj ho
            exact wpOpIn_of rfl rfl (wpW_val (r_move (.tmp 0) rfl (hP.out 0 (dm_out (by kernel_rfl)))) ⟨_, rfl, hS2, trivial, (fun h => by simp at h), rfl⟩)
          · obtain rfl := Option.some.inj ho
            exact wpOpIn_of rfl rfl (wpW_val (r_move (.tmp 2) rfl (hP.out 2 (dm_out (by kernel_rfl)))) ⟨_, rfl, hS2, trivial, (fun h => by simp at h), rfl⟩)
          · obtain rfl := Option.some.inj ho
            exact wpOpIn_of rfl rfl (wpW_val (r_idx (.tmp 22) (.tmp 23) _ _ rfl (hpre ⟨8, .data⟩ (by simp) rfl).2 (hpre ⟨9, .data⟩ (by simp) rfl).2 (idx_sl Try.underlying25 size3 q _ c0 k hkl _)) ⟨_, rfl, hS2, trivial, (fun h => by simp at h), rfl⟩)
          · obtain rfl := Option.some.inj ho
            have h15 := not_yet hcl 15 rfl ⟨11, .phase⟩ (by simp) rfl hls
            have h13 := not_yet hcl 13 rfl ⟨11, .phase⟩ (by simp) rfl hls
            have hw := sel3 hS2 h15 h13
            subst hw
            exact wpOpIn_of rfl rfl (wpW_val (r_load1 3 agg3 (.tmp 24) ⟨q, k, none⟩ rfl (hpre ⟨10, .data⟩ (by simp) rfl).2 HCK.out) ⟨_, rfl, hS2, trivial, (fun h => by simp at h), rfl⟩)
          · obtain rfl := Option.some.inj ho
            exact wpOpIn_of rfl rfl (wpW_val (r_idx (.tmp 14) (.tmp 15) _ _ rfl (hpre ⟨0, .data⟩ (by simp) rfl).2 (hpre ⟨1, .data⟩ (by simp) rfl).2 (idx_sl Try.underlying25 size3 q _ c0 k hkl _)) ⟨_, rfl, hS2, trivial, (fun h => by simp at h), rfl⟩)
          · obtain rfl := Option.some.inj ho
            have h15 := not_yet hcl 15 rfl ⟨13, .chain⟩ (by simp) rfl hls
            have hw := sel3 hS2 h15 hls
            subst hw
            exact wpOpIn_of rfl rfl (wpW_skip (r_store1 3 (.tmp 26) (.tmp 21) _ _ _ rfl (hpre ⟨12, .data⟩ (by simp) rfl).2 (hpre ⟨7, .data⟩ (by simp) rfl).2 rfl HCK.out HFK.out (st3 _ _ _ HCK.out HFK.out)) ⟨undef, rfl, (by show _ = bif ls 15 then _ else _; rw [h15]; rfl), trivial, fun _ => rfl, rfl⟩)
          · obtain rfl := Option.some.inj ho
            exact wpOpIn_of rfl rfl (wpW_val (r_idx (.tmp 16) (.tmp 17) _ _ rfl (hpre ⟨2, .data⟩ (by simp) rfl).2 (hpre ⟨3, .data⟩ (by simp) rfl).2 (idx_sl Try.underlying25 size3 q _ c0 j hjl _)) ⟨_, rfl, hS2, trivial, (fun h => by simp at h), rfl⟩)
          · obtain rfl := Option.some.inj ho
            have h13 : ls 13 = true := (hpre ⟨13, .chain⟩ (by simp) rfl).1
            rw [hls, h13] at hS2
            change w2 = wr.drew.setCell ⟨q, k, none⟩ (.int .i64 y) at hS2
            subst hS2
            exact wpOpIn_of rfl rfl (wpW_skip (r_store1 3 (.tmp 27) (.tmp 25) _ _ _ rfl (hpre ⟨14, .data⟩ (by simp) rfl).2 (hpre ⟨11, .data⟩ (by simp) rfl).2 rfl HCJ2.out HFJ2.out (st3 _ _ _ HCJ2.out HFJ2.out)) ⟨undef, rfl, rfl, trivial, fun _ => rfl, rfl⟩)
        · intro ls a w2 hall hS2 hP hsl
          have h15 : ls 15 = true := hall 15 (by decide)
          rw [h15] at hS2
          obtain ⟨vs, hvs, hfr⟩ := hP.frame 28 rfl
          clear hsl hP hall h15 hvs HCK HFK HCJ HCJ2 HFJ2
          subst hfr
          subst hS2
          dsimp only
          simp only [List.range, List.range.loop, List.map_cons, List.map_nil, List.any_cons, List.any_nil, Nat.reduceAdd, Nat.reduceBEq, Nat.reduceLT, Nat.reduceEqDiff, Option.some_beq_some, Bool.or_false, if_true, if_false, List.getD_cons_zero, List.getD_cons_succ, cond_true]
          generalize (wr.drew.setCell ⟨q, k, none⟩ (.int .i64 y)).setCell ⟨q, j, none⟩ (.int .i64 x) = w9 at *
          go_wp2_with fail
          go_roundw
          case rel => exact ⟨k + 1, by go_num, by go_num, by omega, HN⟩
          case measure => simp [intOf]; omega
      · have HE := Lib.hid (revTo_all xs (k := k) hk (by omega))
        go_wp2_with fail
        go_end0
        exact ⟨rfl, by rw [← HE.out]; exact HV.out, HB.out⟩
def InvPost (xs : List Int) (w : World) (e : Ending) (w' : World) : Prop := ∃ A c, e = .returned (.slice A xs.length c) ∧ OwnI w.heap.size w' (.slice A xs.length c) (Ct.inv xs) ∧ Below w.heap.size w w'
set_option maxRecDepth 100000 in
set_option maxHeartbeats 2000000 in
theorem inverse189_any (w : World) (v : Value) (xs : List Int) (h : IntsAt w v xs) (hl : xs.length ≤ 1000000) (hm : ∀ x ∈ xs, Mild x) :
    Calls Try.prog 189 #[v] w (InvPost xs w) := by
  have HC := Lib.hid (clone71_any w v xs h hl)
  have HM : Hid (∀ k, Mild ((xs.reverse).getD k 0)) := Lib.hid fun k => by
    rcases Nat.lt_or_ge k xs.reverse.length with h1 | h1
    · rw [List.getD_eq_getElem?_getD, List.getElem?_eq_getElem h1]
      exact hm _ (List.mem_reverse.1 (List.getElem_mem h1))
    · rw [List.getD_eq_getElem?_getD, List.getElem?_eq_none h1]
      exact ⟨by show (_ : Int) ≤ 0; omega, by show (0 : Int) ≤ _; omega⟩
  obtain ⟨Av, cv, rfl, hcap, hmax, -⟩ := h.open_
  have hl0 : (xs.length : Int) ≤ 1000000 := by omega
  have hl1 : (0 : Int) ≤ (xs.length : Int) := Int.natCast_nonneg _
  have hrl : xs.reverse.length = xs.length := List.length_reverse
  clear h hm
  unfold InvPost
  go_enter Try.func189, Try.ntmps189
  go_wp2_with fail
  refine HC.out.mono ?_
  rintro e w1 ⟨A, c0, rfl, ho, hb⟩
  have HB1 := Lib.hid hb
  have HRV := Lib.hid (reverse212_any w.heap.size w1 _ xs ho hl hb.size)
  clear ho hb
  go_wp2_with fail
  refine HRV.out.mono ?_
  rintro e w2 ⟨rfl, ho, hb⟩
  have HO2 := Lib.hid ho
  have HB2 := Lib.hid (HB1.out.trans hb)
  clear ho hb HRV HC HB1
  have HE : Hid (negTo xs.reverse xs.length = Ct.inv xs) := Lib.hid (by rw [← hrl]; exact negTo_all _)
  generalize xs.reverse = ys at *
  go_wp2_with fail
  go_loopw [11] (fun i wr => ∃ k : Nat, i = .int .i64 (k : Int) ∧ k ≤ xs.length ∧ Hid (OwnI w.heap.size wr (.slice A xs.length c0) (negTo ys k)) ∧ Hid (Below w.heap.size w wr)) (fun i _ => xs.length - (intOf i).toNat)
  case atStart => exact ⟨0, rfl, Nat.zero_le _, HO2, HB2⟩
  case round =>
    obtain ⟨k, rfl, hk, HV, HB⟩ := hrel
    have hk0 : (0 : Int) ≤ (k : Int) := Int.natCast_nonneg _
    by_cases hlt : k < xs.length
    · have hkI : (k : Int) < (xs.length : Int) := by omega
      have hln := length_negTo ys k
      obtain ⟨q, c1, e1, hqb, -, hcc, hff⟩ := ownI_cell HV.out (by omega)
      injection e1 with e1 e2 e3
      subst e1
      have hck := hcc k (by omega)
      have hfk := hff k
      have hmk := HM.out k
      have hgd : (negTo ys k).getD k 0 = ys.getD k 0 := by rw [negTo_getD ys k (by omega), if_neg (Nat.lt_irrefl k)]
      have hn2 := ownI_set HV.out (g := q) rfl (k := k) (by omega) (-((negTo ys k).getD k 0))
      rw [← negTo_succ] at hn2
      rw [hgd] at hn2 hck
      have HN := Lib.hid hn2
      have HBE := Lib.hid (HB.out.setCell (p := ⟨q, k, none⟩) hqb (.int .i64 (-(ys.getD k 0))))
      unfold Mild at hmk
      clear hn2 hcc hff hgd HV e2 e3
      generalize ys.getD k 0 = x at *
      have hx := hmk.1
      have hx2 := hmk.2
      clear hmk
      go_wp2_with fail
      go_roundw
      case rel => exact ⟨k + 1, by go_num, by omega, HN, HBE⟩
      case measure => simp [intOf]; omega
    · obtain rfl : k = xs.length := by omega
      go_wp2_with fail
      go_ret
      exact ⟨A, c0, rfl, by rw [← HE.out]; exact HV.out, HB.out⟩
end Go.Proofs
namespace Go.Proofs
open Go.RowKit Go.Shelf Go.Proofs.Ct Go.Maps
set_option maxRecDepth 100000 in
set_option maxHeartbeats 4000000 in
theorem walk214_any (K : Nat → Prop) (T : TypeId) (ex : List Value) (bl cs : Nat → Nat) (g base b wd lim r : Nat) (hg : g ≤ 16) (w : World) (f : FS) (u : Value) (ws : W) (hI : Inv g f.s) (hS : StFB K T ex bl cs base b wd lim w f) (hn : f.s.t.length ≤ 1000000) (hu : IntsAt w u ws) (hl : LOk g ws) (hr : r < f.s.t.length) :
    Calls Try.prog 214 #[.pointer (some ⟨b, 0, none⟩), .int .i64 (r : Int), u] w fun e w' => e = .returned (.tuple #[.int .i64 (leadTo f.s.t r ws (fwd f.s.t r ws)), .int .i64 ((fwd f.s.t r ws : Nat) : Int)]) ∧ ∃ q, w' = w.drewN q := by
  obtain ⟨Au, cu, rfl, hu1, hu2, hu3⟩ := hu.open_
  have HU := Lib.hid hu3
  have HL := Lib.hid hl
  have HAT : Hid (∀ r c, r < f.s.t.length → c < 2 * g → ∃ gr cr, w.cell? ⟨b, 2, none⟩ = some (.slice (some ⟨gr, 0, none⟩) f.s.t.length cr) ∧ w.cell? ⟨gr, r, none⟩ = some (.slice (some ⟨bl r, 0, none⟩) (2 * g) (cs r)) ∧ w.cell? ⟨bl r, c, none⟩ = some (.int .i64 (f.s.t.at r c))) := Lib.hid fun r c h1 h2 => hS.at_ hI h1 h2
  have HCO : Hid (∀ (x : Int) n, -(g : Int) ≤ x ∧ x ≤ g ∧ x ≠ 0 → Calls Try.prog 217 #[.int .i64 x] (w.drewN n) fun e w' => e = .returned (.int .i64 (col x : Nat)) ∧ w.drewN n = w') := Lib.hid fun x n h => column217_any _ _ (by omega)
  have hr0 : (0 : Int) ≤ (r : Int) := Int.natCast_nonneg _
  have hn0 : (f.s.t.length : Int) ≤ 1000000 := by omega
  have hws0 : (0 : Int) ≤ (ws.length : Int) := Int.natCast_nonneg _
  have hws1 : (ws.length : Int) ≤ 9223372036854775807 := by omega
  have HRB := Lib.hid hI.bd
  clear hS hu hu3 hl hI
  go_enter Try.func214, Try.ntmps214
  go_wp2_with fail
  go_loopw [1, 13] (fun ff i wr => ∃ k z : Nat, i = .int .i64 k ∧ k ≤ ws.length ∧ ff = .int .i64 (z : Int) ∧ z < f.s.t.length ∧ Hid ((z : Int) = leadTo f.s.t r ws k) ∧ Hid (∀ j, j < k → 0 ≤ leadTo f.s.t r ws (j + 1)) ∧ ∃ q, wr = w.drewN q) (fun _ i _ => ws.length - (intOf i).toNat)
  case atStart => exact ⟨0, r, rfl, by omega, rfl, hr, Lib.hid rfl, Lib.hid fun j hj => absurd hj (by omega), 0, rfl⟩
  case round =>
    obtain ⟨k, z, rfl, hk, rfl, hz, HZ, HJ, q, rfl⟩ := hrel
    have hk0 : (0 : Int) ≤ (k : Int) := Int.natCast_nonneg _
    have hz0 : (0 : Int) ≤ (z : Int) := Int.natCast_nonneg _
    have hzI : (z : Int) < (f.s.t.length : Int) := by omega
    by_cases hlt : k < ws.length
    · have hlt' : (k : Int) < (ws.length : Int) := by omega
      obtain ⟨bw, ow, rfl, hcc⟩ := HU.out (by omega)
      have hck := hcc k hlt
      have hx := HL.out.getD hlt
      have hcx := HL.out.col hlt
      obtain ⟨gr, cr, a1, a2, a3⟩ := HAT.out z (col (ws.getD k 0)) hz hcx
      have HNX : Hid (leadTo f.s.t r ws (k + 1) = f.s.t.at z (col (ws.getD k 0))) := Lib.hid (by
        rw [leadTo_succ, ← HZ.out, if_neg (by omega), Int.toNat_natCast])
      have hbd := HRB.out z hz _ hcx
      have HC1 : Hid (∀ n, Calls Try.prog 217 #[.int .i64 (ws.getD k 0)] (w.drewN n) fun e w' => e = .returned (.int .i64 (col (ws.getD k 0) : Nat)) ∧ w.drewN n = w') := Lib.hid fun n => HCO.out _ n hx
      have hc0 : (0 : Int) ≤ ((col (ws.getD k 0) : Nat) : Int) := Int.natCast_nonneg _
      have hc1 : ((col (ws.getD k 0) : Nat) : Int) < ((2 * g : Nat) : Int) := by omega
      have hxr : -16 ≤ ws.getD k 0 ∧ ws.getD k 0 ≤ 16 := by omega
      clear hcc hx
      by_cases hy : f.s.t.at z (col (ws.getD k 0)) < 0
      · have HK : Hid (leadTo f.s.t r ws (k + 1) < 0) := Lib.hid (by rw [HNX.out]; exact hy)
        have HF : Hid (fwd f.s.t r ws = k) := Lib.hid (fwd_eq (by omega) (.inr HK.out) HJ.out)
        obtain ⟨hy1, hy2⟩ := hbd
        generalize f.s.t.at z (col (ws.getD k 0)) = y at *
        generalize col (ws.getD k 0) = cx at *
        generalize ws.getD k 0 = x at *
        generalize 2 * g = m at *
        go_wp2_with fail
        go_quiet ((go_at_call 217; exact quiet_add_left (HC1.out _)))
        go_wp2_with fail
        go_ret2
        exact ⟨ret_pair (by rw [HF.out]; exact HZ.out) (by rw [HF.out]), (by first | exact ⟨_, rfl⟩ | exact ex_drewN)⟩
      · obtain ⟨y, hye⟩ : ∃ y : Nat, f.s.t.at z (col (ws.getD k 0)) = (y : Int) := ⟨(f.s.t.at z (col (ws.getD k 0))).toNat, by omega⟩
        rw [hye] at HNX a3 hbd hy
        have hy2 : y < f.s.t.length := by omega
        have hy0 : (0 : Int) ≤ (y : Int) := Int.natCast_nonneg _
        have HJ2 : Hid (∀ j, j < k + 1 → 0 ≤ leadTo f.s.t r ws (j + 1)) := Lib.hid fun j hj => by
          rcases Nat.lt_or_ge j k with h | h
          · exact HJ.out j h
          · obtain rfl : j = k := by omega
            rw [HNX.out]; exact hy0
        clear hbd hye
        generalize col (ws.getD k 0) = cx at *
        generalize ws.getD k 0 = x at *
        generalize 2 * g = m at *
        go_wp2_with fail
        go_quiet ((go_at_call 217; exact quiet_add_left (HC1.out _)))
        go_wp2_with fail
        go_roundw
        case rel => exact ⟨k + 1, y, by go_num, by omega, rfl, hy2, Lib.hid HNX.out.symm, HJ2, (by first | exact ⟨_, rfl⟩ | exact ex_drewN)⟩
        case measure => simp [intOf]; omega
    · obtain rfl : k = ws.length := by omega
      have HF : Hid (fwd f.s.t r ws = ws.length) := Lib.hid (fwd_eq (Nat.le_refl _) (.inl rfl) HJ.out)
      go_wp2_with fail
      go_ret2
      exact ⟨ret_pair (by rw [HF.out]; exact HZ.out) (by rw [HF.out]), (by first | exact ⟨_, rfl⟩ | exact ex_drewN)⟩
end Go.Proofs
namespace Go.Proofs
open Go.RowKit Go.Shelf Go.Proofs.Ct Go.Maps
theorem take_snocI (xs : List Int) {k : Nat} (h : k < xs.length) : xs.take (k + 1) = xs.take k ++ [xs.getD k 0] := by
  rw [List.take_add_one, List.getD_eq_getElem?_getD, List.getElem?_eq_getElem h]; rfl
end Go.Proofs
namespace Go.Proofs
open Go.RowKit Go.Shelf Go.Maps
theorem run_append_none (w : World) (base : Nat) (t ty e : TypeId) (i : TypeInfo) (ht : Try.prog.underlying t = some (.slice e)) (hi : Try.prog.info? e = some i) (_hs : i.size = 1)
    (v : Value) (n : Nat) (xs : List Value) (cap : Nat) (hown : w.ownsRow base e 1 v n xs) : (Builtin.append_ #[t, t] ty #[v, .slice none 0 cap]).run Try.prog w = .ok v w := by
  rcases hown.2 with ⟨rfl, rfl⟩ | ⟨g, cap', cur, rfl, -, hg, hnc, hcm, hcs, htake⟩
  · simp [Builtin.append_, run_underlying ht, sizeOf, typeInfo, hi, Builtin.lenOf, Builtin.firstCells]
  · simp [Builtin.append_, run_underlying ht, sizeOf, typeInfo, hi, Builtin.lenOf, Builtin.firstCells, hnc, storeCells]
theorem run_app {t ty e : TypeId} {z : Value} {bytes : Nat} (ht : Try.prog.underlying t = some (.slice e)) (hi : ∃ i, Try.prog.info? e = some i ∧ i.zero = some z ∧ i.size = 1 ∧ i.bytes = bytes) (hz : z.cells.size = 1) (hby : bytes ≤ 1000)
    (w : World) (base : Nat) (v : Value) (n : Nat) (xs : List Value) (hown : w.ownsRow base e 1 v n xs) (u : Value) (ys : List Value) (hu : Sl w u ys) (h1 : ∀ y ∈ ys, y.oneCell' = true) (hn : n ≤ 1000000) (hm : ys.length ≤ 1000000) (hb : base ≤ w.heap.size) :
    ∃ A' c' w', (Builtin.append_ #[t, t] ty #[v, u]).run Try.prog w = .ok (.slice A' (n + ys.length) c') w' ∧ w'.ownsRow base e 1 (.slice A' (n + ys.length) c') (n + ys.length) (xs ++ ys) ∧
      w.grownBy w' v.ownBlock ∧ ((Value.slice A' (n + ys.length) c').ownBlock = v.ownBlock ∨ ∃ r, (Value.slice A' (n + ys.length) c').ownBlock = some r ∧ w.heap.size ≤ r) := by
  obtain ⟨i, hi, hz', hs, hb'⟩ := hi
  obtain ⟨A, m, cap, rfl, hl, hc1, hc2, hcells⟩ := hu
  cases A with
  | none =>
    have hm0 : ys = [] := by
      rcases Nat.eq_zero_or_pos m with h0 | h0
      · exact List.length_eq_zero_iff.1 (by omega)
      · obtain ⟨_, _, h, -⟩ := hcells h0; cases h
    subst hm0
    obtain ⟨A', c', rfl⟩ := owns_form hown
    have hm1 : m = 0 := hl
    subst hm1
    exact ⟨A', c', w, run_append_none w base t ty e i ht hi hs _ n xs cap hown, by simpa using hown, World.grownBy.refl w _, .inl rfl⟩
  | some a =>
    obtain ⟨v', w', hr, hown', hg, -, hw⟩ := run_append_own_at (P := Try.prog) w base t ty e i z 1 bytes ht hi hz' hs hb' hz (by omega) v n xs hown a m cap ys (by omega) (fun j y hy => by
        have hj := (List.getElem?_eq_some_iff.1 hy).1
        obtain ⟨b, off, ha, hr⟩ := hcells (by omega)
        rw [Option.some.inj ha]
        have h3 := hr j y hy
        rcases Nat.eq_zero_or_pos j with h0 | h0
        · subst h0; simpa [Addr.add] using h3
        · simpa [Addr.add, show j ≠ 0 by omega] using h3) h1 (by unfold maxLen; omega)
      (by have : (n + m) * bytes ≤ 2000000 * 1000 := Nat.mul_le_mul (by omega) hby
          omega) hb
    obtain ⟨A', c', rfl⟩ := owns_form hown'
    have hm1 : m = ys.length := by omega
    subst hm1
    refine ⟨A', c', w', hr, hown', hg, ?_⟩
    rcases hw with hw | hw
    · exact .inl hw
    · exact .inr ⟨_, hw, Nat.le_refl _⟩
theorem app_ints (ty t : TypeId) (ht : Try.prog.underlying t = some (.slice 3)) (w : World) (base : Nat) (v : Value) (xs : List Int) (h : OwnI base w v xs) (u : Value) (ys : List Int) (hu : IntsAt w u ys) (hx : xs.length ≤ 1000000) (hy : ys.length ≤ 1000000) (hb : base ≤ w.heap.size) :
    ∃ A' c' w', (Builtin.append_ #[t, t] ty #[v, u]).run Try.prog w = .ok (.slice A' (xs ++ ys).length c') w' ∧ OwnI base w' (.slice A' (xs ++ ys).length c') (xs ++ ys) ∧
      w.grownBy w' v.ownBlock ∧ ((Value.slice A' (xs ++ ys).length c').ownBlock = v.ownBlock ∨ ∃ r, (Value.slice A' (xs ++ ys).length c').ownBlock = some r ∧ w.heap.size ≤ r) := by
  obtain ⟨A', c', w', hr, ho, hg, hw⟩ := run_app (ty := ty) ht info3p rfl (by omega) w base v xs.length (ints xs) h u (ints ys) hu.1 (fun y hy => by
    obtain ⟨z, -, rfl⟩ := List.mem_map.1 hy; rfl) hx (by rw [length_ints]; exact hy) hb
  rw [length_ints] at hr ho hw
  refine ⟨A', c', w', by rw [List.length_append]; exact hr, ?_, hg, by rw [List.length_append]; exact hw⟩
  show w'.ownsRow base 3 1 _ (xs ++ ys).length (ints (xs ++ ys))
  rw [ints_app, List.length_append]
  exact ho
end Go.Proofs
namespace Go.Proofs
open Go.RowKit Go.Shelf Go.Proofs.Ct Go.Maps
def usB (ops : Array Oper) (N : Nat) (us : Nat → Nat → Bool) : Bool := (List.range N).all fun i => (List.range N).all fun j => !us i j || (match ops[i]? with | some o => o.after.toList.any fun e => decide (e.on = j) && Region.binds .any e | none => false)
theorem us_of {ops : Array Oper} {N : Nat} {us : Nat → Nat → Bool} (h : usB ops N us = true) : ∀ i j, i < N → j < N → us i j = true → ∀ o, ops[i]? = some o → ∃ e ∈ o.after.toList, e.on = j ∧ Region.binds .any e = true := fun i j hi hj hu o ho => by
  unfold usB at h
  rw [List.all_eq_true] at h
  have h1 := h i (by simpa using hi)
  rw [List.all_eq_true] at h1
  have h2 := h1 j (by simpa using hj)
  rw [hu, ho] at h2
  simp only [Bool.not_true, Bool.false_or, List.any_eq_true, Bool.and_eq_true, decide_eq_true_eq] at h2
  obtain ⟨e, he, h3, h4⟩ := h2
  exact ⟨e, he, h3, h4⟩
def uqB (N : Nat) (wr : Nat → Bool) (us : Nat → Nat → Bool) : Bool := (List.range N).all fun i => (List.range N).all fun i' => (List.range N).all fun j => !wr j || !us i j || !us i' j || i == i'
theorem uq_of {N : Nat} {wr : Nat → Bool} {us : Nat → Nat → Bool} (h : uqB N wr us = true) : ∀ i i' j, i < N → i' < N → j < N → wr j = true → us i j = true → us i' j = true → i = i' := fun i i' j hi hi' hj h1 h2 h3 => by
  unfold uqB at h
  rw [List.all_eq_true] at h
  have k1 := h i (by simpa using hi)
  rw [List.all_eq_true] at k1
  have k2 := k1 i' (by simpa using hi')
  rw [List.all_eq_true] at k2
  have k3 := k2 j (by simpa using hj)
  rw [h1, h2, h3] at k3
  simpa using k3
structure Step (N : Nat) (wr : Nat → Bool) (us : Nat → Nat → Bool) (O : Nat → Nat → Prop) (i : Nat) (O' : Nat → Prop) (w w' : World) : Prop where
  size : w.heap.size ≤ w'.heap.size
  keep : ∀ k, k < w.heap.size → (∀ j, j < N → us i j = true → wr j = true → ¬ O j k) → w'.heap[k]? = w.heap[k]?
  foot : ∀ k, O' k → k < w'.heap.size ∧ (w.heap.size ≤ k ∨ ∃ j, j < N ∧ us i j = true ∧ O j k ∧ (wr i = true → wr j = true))
section
variable {F : Fence} {n : Nat} {P : Program} {ops : Array Oper} {Q : Exit → Act → World → Prop}
end
end Go.Proofs
namespace Go.Proofs
open Go.RowKit Go.Shelf Go.Proofs.Ct Go.Maps
def TabS (F : Nat → Prop) (w : World) (u : Value) (ys : List (List Int)) : Prop := ∃ vs, (∀ w', Ag F w w' → Sl w' u vs) ∧ RowsF F w vs ys
def RdT (F : Nat → Prop) (w : World) (u : Value) (ys : List (List Int)) : Prop := ∀ w', Ag F w w' → Tab w' u ys
section
variable {F G : Nat → Prop} {w w' : World} {u : Value} {ys : List (List Int)}
theorem TabS.keep (h : TabS F w u ys) (ha : Ag F w w') : TabS F w' u ys := by
  obtain ⟨vs, h1, h2⟩ := h
  exact ⟨vs, fun w'' h' => h1 w'' (ha.trans h'), h2.keep ha fun _ h => h⟩
theorem TabS.mono (h : TabS F w u ys) (hg : ∀ k, F k → G k) : TabS G w u ys := by
  obtain ⟨vs, h1, h2⟩ := h
  exact ⟨vs, fun w' h' => h1 w' fun k hk => h' k (hg k hk), h2.keep (Ag.refl _ _) hg⟩
theorem TabS.tab (h : TabS F w u ys) : Tab w u ys := by
  obtain ⟨vs, h1, h2⟩ := h
  exact ⟨vs, h1 w (Ag.refl _ _), h2.1, fun i hi => let ⟨x, hx, hr⟩ := h2.2 i hi; ⟨x, hx, hr.at_⟩⟩
theorem RdT.keep (h : RdT F w u ys) (ha : Ag F w w') : RdT F w' u ys := fun w'' h' => h w'' (ha.trans h')
theorem RdT.mono (h : RdT F w u ys) (hg : ∀ k, F k → G k) : RdT G w u ys := fun w' h' => h w' fun k hk => h' k (hg k hk)
theorem TabS.of_own {e : TypeId} {base : Nat} (h : OwnT e base F w u ys) (hv : ∀ r, u.ownBlock = some r → G r) (hg : ∀ k, F k → G k) : TabS G w u ys := by
  obtain ⟨vs, h1, h2⟩ := h
  exact ⟨vs, fun w' ha => sl_of_owns (owns_keep h1 fun r hr => ha r (hv r hr)), h2.keep (Ag.refl _ _) hg⟩
end
inductive FP where
  | any | eq (v : Value) | ints (l : List Int) | tab (l : List (List Int)) | rd (l : List (List Int)) | own (l : List Int) | ownT (l : List (List Int)) | box (e : TypeId) (cs : Array Value) | enum (t : List (List Int)) (a b c : Int) | tup (l : List Int) (e : Int) | tupT (l : List (List Int)) (e : Int)
def Fb (base : Nat) (O : Nat → Prop) : Nat → Prop := fun k => k < base ∨ O k
def FP.holds (base : Nat) : FP → Value → (Nat → Prop) → World → Prop
  | .any, _, _, _ => True
  | .eq u, v, _, _ => v = u
  | .ints l, v, O, w => ∃ A c, v = .slice A l.length c ∧ IntsF (Fb base O) w (.slice A l.length c) l
  | .tab l, v, O, w => ∃ A c, v = .slice A l.length c ∧ TabS (Fb base O) w (.slice A l.length c) l
  | .rd l, v, O, w => ∃ A c, v = .slice A l.length c ∧ RdT (Fb base O) w (.slice A l.length c) l
  | .own l, v, O, w => ∃ A c, v = .slice A l.length c ∧ OwnI base w (.slice A l.length c) l ∧ ∀ r, (Value.slice A l.length c).ownBlock = some r → O r
  | .ownT l, v, O, w => ∃ A c F, v = .slice A l.length c ∧ OwnT 25 base F w (.slice A l.length c) l ∧ (∀ k, F k → Fb base O k ∧ k < w.heap.size ∧ (Value.slice A l.length c).ownBlock ≠ some k) ∧ ∀ r, (Value.slice A l.length c).ownBlock = some r → O r
  | .box e cs, v, O, w => ∃ q, v = .pointer (some ⟨q, 0, none⟩) ∧ O q ∧ w.heap[q]? = some (.cells cs e (0, 0))
  | .enum t a b c, v, O, w => ∃ A n, v = .tuple #[.slice A t.length n, .agg #[.int .i64 a, .int .i64 b, .int .i64 0], .int .i64 c] ∧ RdT (Fb base O) w (.slice A t.length n) t
  | .tup l e, v, O, w => ∃ A n, v = .tuple #[.slice A l.length n, .int .i64 e] ∧ IntsF (Fb base O) w (.slice A l.length n) l
  | .tupT l e, v, O, w => ∃ A n, v = .tuple #[.slice A l.length n, .int .i64 e] ∧ RdT (Fb base O) w (.slice A l.length n) l
section
variable {base : Nat} {O O' : Nat → Prop} {W0 w w' : World} {v : Value}
theorem ag_fb (_hb : W0.heap.size = base) (h1 : Below base W0 w) (h2 : Below base W0 w') (h : ∀ k, O k → w'.heap[k]? = w.heap[k]?) : Ag (Fb base O) w w' := fun k hk => by
  rcases hk with hk | hk
  · rw [h1.block k (by omega), h2.block k (by omega)]
  · exact h k hk
theorem FP.keep {p : FP} (hb : W0.heap.size = base) (h1 : Below base W0 w) (h2 : Below base W0 w') (hs : w.heap.size ≤ w'.heap.size) (h : ∀ k, O k → w'.heap[k]? = w.heap[k]?) : p.holds base v O w → p.holds base v O w' := by
  have ha := ag_fb hb h1 h2 h
  cases p with
  | any => exact id
  | eq u => exact id
  | ints l => exact fun ⟨A, c, e, k⟩ => ⟨A, c, e, k.keep ha⟩
  | tab l => exact fun ⟨A, c, e, k⟩ => ⟨A, c, e, k.keep ha⟩
  | rd l => exact fun ⟨A, c, e, k⟩ => ⟨A, c, e, k.keep ha⟩
  | own l => exact fun ⟨A, c, e, k, k2⟩ => ⟨A, c, e, owns_keep k fun r hr => h r (k2 r hr), k2⟩
  | ownT l => exact fun ⟨A, c, F, e, k, k2, k3⟩ => ⟨A, c, F, e, k.keep (fun r hr => h r (k3 r hr)) (fun x hx => ha x (k2 x hx).1) (fun _ h => h), fun x hx => ⟨(k2 x hx).1, Nat.lt_of_lt_of_le (k2 x hx).2.1 hs, (k2 x hx).2.2⟩, k3⟩
  | box e cs => exact fun ⟨q, e, k, k2⟩ => ⟨q, e, k, (h q k).trans k2⟩
  | enum t a b c => exact fun ⟨A, n, e, k⟩ => ⟨A, n, e, k.keep ha⟩
  | tup l x => exact fun ⟨A, n, e, k⟩ => ⟨A, n, e, k.keep ha⟩
  | tupT l x => exact fun ⟨A, n, e, k⟩ => ⟨A, n, e, k.keep ha⟩
theorem FP.mono {p : FP} (hO : ∀ k, O k → O' k) : p.holds base v O w → p.holds base v O' w := by
  have hF : ∀ k, Fb base O k → Fb base O' k := fun k hk => hk.imp id (hO k)
  cases p with
  | any => exact id
  | eq u => exact id
  | ints l => exact fun ⟨A, c, e, k⟩ => ⟨A, c, e, k.mono hF⟩
  | tab l => exact fun ⟨A, c, e, k⟩ => ⟨A, c, e, k.mono hF⟩
  | rd l => exact fun ⟨A, c, e, k⟩ => ⟨A, c, e, k.mono hF⟩
  | own l => exact fun ⟨A, c, e, k, k2⟩ => ⟨A, c, e, k, fun r hr => hO r (k2 r hr)⟩
  | ownT l => exact fun ⟨A, c, F, e, k, k2, k3⟩ => ⟨A, c, F, e, k, fun x hx => ⟨hF x (k2 x hx).1, (k2 x hx).2⟩, fun r hr => hO r (k3 r hr)⟩
  | box e cs => exact fun ⟨q, e, k, k2⟩ => ⟨q, e, hO q k, k2⟩
  | enum t a b c => exact fun ⟨A, n, e, k⟩ => ⟨A, n, e, k.mono hF⟩
  | tup l x => exact fun ⟨A, n, e, k⟩ => ⟨A, n, e, k.mono hF⟩
  | tupT l x => exact fun ⟨A, n, e, k⟩ => ⟨A, n, e, k.mono hF⟩
end
def Mx (N : Nat) (wr : Nat → Bool) (us : Nat → Nat → Bool) (O : Nat → Nat → Prop) (i : Nat) (w w' : World) : Nat → Prop := fun k => k < w'.heap.size ∧ (w.heap.size ≤ k ∨ ∃ j, j < N ∧ us i j = true ∧ O j k ∧ (wr i = true → wr j = true))
section
variable {N : Nat} {wr : Nat → Bool} {us : Nat → Nat → Bool} {O : Nat → Nat → Prop} {i : Nat} {w w' : World}
theorem Step.below (h : Below w.heap.size w w') : Step N wr us O i (Mx N wr us O i w w') w w' := ⟨h.size, fun k hk _ => h.block k hk, fun _ h => h⟩
theorem Step.same : Step N wr us O i (Mx N wr us O i w w) w w := Step.below (Below.refl _ _)
theorem Step.grown {row : Option Nat} (h : w.grownBy w' row) (hr : ∀ r, row = some r → ∃ j, j < N ∧ us i j = true ∧ wr j = true ∧ O j r) : Step N wr us O i (Mx N wr us O i w w') w w' := ⟨h.size, fun k hk hn => h.block k hk fun e => by
  obtain ⟨j, h1, h2, h3, h4⟩ := hr k e.symm
  exact hn j h1 h2 h3 h4, fun _ h => h⟩
theorem Mx.fresh {k : Nat} (h1 : w.heap.size ≤ k) (h2 : k < w'.heap.size) : Mx N wr us O i w w' k := ⟨h2, .inl h1⟩
theorem Mx.of {j k : Nat} (hj : j < N) (hu : us i j = true) (hw : wr i = true → wr j = true) (hO : O j k) (hk : k < w'.heap.size) : Mx N wr us O i w w' k := ⟨hk, .inr ⟨j, hj, hu, hO, hw⟩⟩
end
theorem grown_below {w w' W0 : World} {base : Nat} {row : Option Nat} (hb : W0.heap.size = base) (h0 : Below base W0 w) (h : w.grownBy w' row) (hr : ∀ r, row = some r → base ≤ r) : Below base W0 w' :=
  ⟨h.os.trans h0.os, h.tape.trans h0.tape, h.output.trans h0.output, Nat.le_trans h0.size h.size, fun k hk => (h.block k (by have := h0.size; omega) fun e => by have := hr k e.symm; omega).trans (h0.block k hk)⟩
theorem app_rows {t ty : TypeId} (ht : Try.prog.underlying t = some (.slice 25)) (w : World) (base : Nat) (F : Nat → Prop) (v : Value) (xs : List (List Int)) (h : OwnT 25 base F w v xs) (u : Value) (ys : List (List Int)) (G : Nat → Prop) (hu : TabS G w u ys)
    (hF : ∀ k, F k → k < w.heap.size ∧ v.ownBlock ≠ some k) (hG : ∀ k, G k → k < w.heap.size ∧ v.ownBlock ≠ some k) (hx : xs.length ≤ 1000000) (hy : ys.length ≤ 1000000) (hb : base ≤ w.heap.size) :
    ∃ A' c' w', (Builtin.append_ #[t, t] ty #[v, u]).run Try.prog w = .ok (.slice A' (xs ++ ys).length c') w' ∧ OwnT 25 base (fun k => F k ∨ G k) w' (.slice A' (xs ++ ys).length c') (xs ++ ys) ∧
      w.grownBy w' v.ownBlock ∧ ((Value.slice A' (xs ++ ys).length c').ownBlock = v.ownBlock ∨ ∃ r, (Value.slice A' (xs ++ ys).length c').ownBlock = some r ∧ w.heap.size ≤ r) := by
  obtain ⟨vals, h1, h2⟩ := h
  obtain ⟨vs, h3, h4⟩ := hu
  have hone : ∀ y ∈ vs, y.oneCell' = true := fun y hy => by
    obtain ⟨j, hj, rfl⟩ := List.mem_iff_getElem.1 hy
    obtain ⟨x, hx, hr⟩ := h4.2 j (by rw [← h4.1]; exact hj)
    rw [List.getElem?_eq_getElem hj] at hx
    obtain ⟨A, c, e, -⟩ := hr.at_.open_
    rw [Option.some.inj hx, e]; rfl
  obtain ⟨A', c', w', hr, ho, hg, hw⟩ := run_app (ty := ty) ht info25p rfl (by omega) w base v xs.length vals h1 u vs (h3 w (Ag.refl _ _)) hone hx (by rw [h4.1]; exact hy) hb
  rw [h4.1, ← List.length_append] at hr ho hw
  refine ⟨A', c', w', hr, ⟨vals ++ vs, ho, ?_⟩, hg, hw⟩
  have aF := Ag.grown hg hF
  have aG := Ag.grown hg hG
  refine ⟨by rw [List.length_append, List.length_append, h2.1, h4.1], fun j hj => ?_⟩
  rcases Nat.lt_or_ge j xs.length with hl | hl
  · obtain ⟨x, hx, hr⟩ := h2.2 j hl
    refine ⟨x, by rw [List.getElem?_append_left (by rw [h2.1]; exact hl)]; exact hx, ?_⟩
    rw [show (xs ++ ys).getD j [] = xs.getD j [] by simp [List.getD_eq_getElem?_getD, List.getElem?_append_left hl]]
    exact (hr.keep aF).mono fun k hk => .inl hk
  · obtain ⟨x, hx, hr⟩ := h4.2 (j - xs.length) (by rw [List.length_append] at hj; omega)
    refine ⟨x, by rw [List.getElem?_append_right (by rw [h2.1]; exact hl), h2.1]; exact hx, ?_⟩
    rw [show (xs ++ ys).getD j [] = ys.getD (j - xs.length) [] by simp [List.getD_eq_getElem?_getD, List.getElem?_append_right hl]]
    exact (hr.keep aG).mono fun k hk => .inr hk
section
variable {o : Oper} {a : Act} {w w' : World} {n : Nat} {v : Value}
theorem bs25_0 (w : World) : (Instr.buildSlice 25 0 #[]).run Try.prog w = .ok (.slice (some ⟨w.heap.size, 0, none⟩) 0 0) (w.alloc (.cells #[] 3)) := by kernel_rfl
theorem r_bs25_0 (ho : o.op = .buildSlice 25 0 #[]) : (execOp a.eval o).run Try.prog w = .ok (.value (.slice (some ⟨w.heap.size, 0, none⟩) 0 0)) (w.alloc (.cells #[] 3)) := by
  have hb := bs25_0 w
  unfold execOp
  simp only [ho, List.map_toArray, List.map_nil, Sem.run_bind, hb, Result.andThen_ok]
  rfl
theorem r_extract (k : Nat) (x : Operand) (vs : Array Value) (ho : o.op = .extract x k) (hx : a.eval x = .tuple vs) (hk : vs[k]? = some v) : (execOp a.eval o).run Try.prog w = .ok (.value v) w := by
  unfold execOp
  simp only [ho, hx]
  simp [go_sem, hk]
theorem own_new (w : World) : OwnI w.heap.size (w.alloc (.cells #[] 3)) (.slice (some ⟨w.heap.size, 0, none⟩) 0 0) [] := by
  refine ⟨rfl, .inr ⟨w.heap.size, 0, #[], rfl, Nat.le_refl _, heap_alloc_new w _, Nat.le_refl _, by simp [maxLen], rfl, by simp [ints]⟩⟩
end
theorem FP.app_rows {t ty : TypeId} (ht : Try.prog.underlying t = some (.slice 25)) {w : World} {base : Nat} {O1 : Nat → Prop} {v : Value} {xs : List (List Int)} (h : (FP.ownT xs).holds base v O1 w) {u : Value} {ys : List (List Int)} {O2 : Nat → Prop} (hu : TabS (Fb base O2) w u ys)
    (h2 : ∀ k, O2 k → k < w.heap.size ∧ ¬ O1 k) (hx : xs.length ≤ 1000000) (hy : ys.length ≤ 1000000) (hb : base ≤ w.heap.size) :
    ∃ A' c' w', (Builtin.append_ #[t, t] ty #[v, u]).run Try.prog w = .ok (.slice A' (xs ++ ys).length c') w' ∧ w.grownBy w' v.ownBlock ∧ (∀ r, v.ownBlock = some r → O1 r ∧ base ≤ r) ∧
      ∀ O' : Nat → Prop, (∀ k, O1 k → k < w.heap.size → O' k) → (∀ k, O2 k → O' k) → (∀ k, w.heap.size ≤ k → k < w'.heap.size → O' k) → (FP.ownT (xs ++ ys)).holds base (.slice A' (xs ++ ys).length c') O' w' := by
  obtain ⟨A, c, F, rfl, o1, f1, r1⟩ := h
  have hown : ∀ r, (Value.slice A xs.length c).ownBlock = some r → base ≤ r ∧ r < w.heap.size := fun r hr => by
    obtain ⟨vals, k1, -⟩ := o1
    exact ⟨(owns_block k1 r hr).1, owns_lt k1 hr⟩
  obtain ⟨A', c', w', hr, ho, hg, hw⟩ := Go.Proofs.app_rows (ty := ty) ht w base F _ xs o1 u ys (Fb base O2) hu (fun k hk => (f1 k hk).2) (fun k hk => by
    rcases hk with hk | hk
    · exact ⟨by omega, fun e => by have := (hown k e).1; omega⟩
    · exact ⟨(h2 k hk).1, fun e => (h2 k hk).2 (r1 k e)⟩) hx hy hb
  refine ⟨A', c', w', hr, hg, fun r hr => ⟨r1 r hr, (hown r hr).1⟩, fun O' p1 p2 p3 => ⟨A', c', _, rfl, ho, fun k hk => ?_, fun r hr => ?_⟩⟩
  · have hks : k < w.heap.size ∧ (Value.slice A xs.length c).ownBlock ≠ some k ∧ Fb base O' k := by
      rcases hk with hk | hk | hk
      · obtain ⟨a1, a2, a3⟩ := f1 k hk
        exact ⟨a2, a3, a1.imp id fun h => p1 k h a2⟩
      · exact ⟨by omega, fun e => (by have := (hown k e).1; omega), .inl hk⟩
      · exact ⟨(h2 k hk).1, fun e => (h2 k hk).2 (r1 k e), .inr (p2 k hk)⟩
    refine ⟨hks.2.2, Nat.lt_of_lt_of_le hks.1 hg.size, fun e => ?_⟩
    rcases hw with hw | ⟨r, hw, hwr⟩
    · rw [hw] at e; exact hks.2.1 e
    · rw [hw] at e
      have := Option.some.inj e
      omega
  · rcases hw with hw | ⟨q, hw, hwq⟩
    · rw [hw] at hr
      exact p1 r (r1 r hr) (hown r hr).2
    · have e : q = r := by rw [hw] at hr; exact Option.some.inj hr
      subst e
      obtain ⟨vals, k1, -⟩ := ho
      exact p3 q hwq (owns_lt k1 hw)
theorem FP.app_ints {t ty : TypeId} (ht : Try.prog.underlying t = some (.slice 3)) {w : World} {base : Nat} {O1 : Nat → Prop} {v : Value} {xs : List Int} (h : (FP.own xs).holds base v O1 w) {u : Value} {ys : List Int} (hu : IntsAt w u ys)
    (hx : xs.length ≤ 1000000) (hy : ys.length ≤ 1000000) (hb : base ≤ w.heap.size) :
    ∃ A' c' w', (Builtin.append_ #[t, t] ty #[v, u]).run Try.prog w = .ok (.slice A' (xs ++ ys).length c') w' ∧ w.grownBy w' v.ownBlock ∧ (∀ r, v.ownBlock = some r → O1 r ∧ base ≤ r) ∧
      ∀ O' : Nat → Prop, (∀ k, O1 k → k < w.heap.size → O' k) → (∀ k, w.heap.size ≤ k → k < w'.heap.size → O' k) → (FP.own (xs ++ ys)).holds base (.slice A' (xs ++ ys).length c') O' w' := by
  obtain ⟨A, c, rfl, o1, r1⟩ := h
  obtain ⟨A', c', w', hr, ho, hg, hw⟩ := Go.Proofs.app_ints ty t ht w base _ xs o1 u ys hu hx hy hb
  refine ⟨A', c', w', hr, hg, fun r hr => ⟨r1 r hr, (owns_block o1 r hr).1⟩, fun O' p1 p3 => ⟨A', c', rfl, ho, fun r hr => ?_⟩⟩
  rcases hw with hw | ⟨q, hw, hwq⟩
  · rw [hw] at hr
    exact p1 r (r1 r hr) (owns_lt o1 hr)
  · have e : q = r := by rw [hw] at hr; exact Option.some.inj hr
    subst e
    exact p3 q hwq (owns_lt ho hw)
theorem FP.tab_of_own {w : World} {base : Nat} {O O' : Nat → Prop} {v : Value} {xs : List (List Int)} (h : (FP.ownT xs).holds base v O w) (ho : ∀ k, O k → O' k) : (FP.tab xs).holds base v O' w := by
  obtain ⟨A, c, F, rfl, o1, f1, r1⟩ := h
  exact ⟨A, c, rfl, TabS.of_own o1 (fun r hr => .inr (ho r (r1 r hr))) fun k hk => (f1 k hk).1.imp id (ho k)⟩
end Go.Proofs
namespace Go.Proofs
open Go.RowKit Go.Shelf Go.Proofs.Ct Go.Maps
theorem take_snoc {α : Type} {d : α} {l : List α} {k : Nat} (h : k < l.length) : l.take (k + 1) = l.take k ++ [l.getD k d] := by
  rw [List.take_add_one, List.getD_eq_getElem?_getD, List.getElem?_eq_getElem h]; rfl
end Go.Proofs
namespace Go.Proofs
open Go.RowKit Go.Shelf Go.Proofs.Ct Go.Maps
theorem turn59_any (w : World) (x : Int) (n : Nat) (hn : 1 ≤ n ∧ n ≤ 1000000) : Calls Try.prog 67 #[.int .i64 x, .int .i64 (n : Int)] w fun e w' => e = .returned (.int .i64 (x % (n : Int))) ∧ w' = w := by
  have hk0 : (0 : Int) < (n : Int) := by omega
  have hk1 : (n : Int) ≤ 1000000 := by omega
  have h3 : x.tmod n < n := Int.tmod_lt_of_pos _ hk0
  have h4 : -(n : Int) < x.tmod n := by
    have := Int.lt_tmod_of_pos x hk0
    omega
  have h5 : (x.tmod n + n).tmod n = x % n := by
    rw [Int.tmod_eq_emod_of_nonneg (by omega), Int.add_emod_right, Int.tmod_eq_emod]
    split <;> simp
  have H5 := Lib.hid h5
  clear h5
  generalize hm : x.tmod (n : Int) = m at *
  have hne : (n : Int) ≠ 0 := by omega
  have h6 : (m + n).tmod n < n := Int.tmod_lt_of_pos _ hk0
  have h7 : 0 ≤ (m + n).tmod (n : Int) := by rw [H5.out]; exact Int.emod_nonneg _ hne
  generalize hz : (m + (n : Int)).tmod (n : Int) = z at *
  go_enter Try.func67, Try.ntmps67
  go_wp2_with fail
  go_ret
  exact ⟨ret_int (by first | exact H5.out | (rw [← H5.out])), (by first | trivial | rfl)⟩
theorem letter61_any (w : World) (c : Nat) (hc : c ≤ 1000000) : Calls Try.prog 69 #[.int .i64 (c : Int)] w fun e w' => e = .returned (.int .i64 (letter c)) ∧ w' = w := by
  have h0 : (0 : Int) ≤ (c : Int) := Int.natCast_nonneg _
  have h1 : (c : Int) ≤ 1000000 := by omega
  have hm : (c : Int).tmod 2 = (c : Int) % 2 := Int.tmod_eq_emod_of_nonneg h0
  have hd : (c : Int).tdiv 2 = (c : Int) / 2 := Int.tdiv_eq_ediv_of_nonneg h0
  have HL : Hid (letter c = if (c : Int) % 2 = 0 then (c : Int) / 2 + 1 else -((c : Int) / 2 + 1)) := Lib.hid (by
    unfold letter
    split <;> split <;> omega)
  generalize hy : (c : Int) / 2 = y at *
  have hy0 : 0 ≤ y := by omega
  have hy1 : y ≤ 1000000 := by omega
  by_cases h : (c : Int) % 2 = 0
  · have d1 : ((c : Int) % 2 == 0) = true := by simpa using h
    rw [if_pos h] at HL
    generalize (c : Int) % 2 = m at *
    generalize letter c = l at *
    clear h
    go_enter Try.func69, Try.ntmps69
    go_wp2_with fail
    go_ret
    exact ⟨ret_int (by rw [HL.out]), (by first | trivial | rfl)⟩
  · have d1 : ((c : Int) % 2 == 0) = false := by simpa using h
    rw [if_neg h] at HL
    generalize (c : Int) % 2 = m at *
    generalize letter c = l at *
    clear h
    go_enter Try.func69, Try.ntmps69
    go_wp2_with fail
    go_ret
    exact ⟨ret_int (by rw [HL.out]), (by first | trivial | rfl)⟩
def wordOf (g : Nat) (l : List Int) : List Int := l.map fun x => letter (x % ((2 * g : Nat) : Int)).toNat
theorem length_wordOf (g : Nat) (l : List Int) : (wordOf g l).length = l.length := by simp [wordOf]
theorem wordOf_take {g : Nat} {l : List Int} {k : Nat} (h : k < l.length) : wordOf g (l.take (k + 1)) = wordOf g (l.take k) ++ [letter (l.getD k 0 % ((2 * g : Nat) : Int)).toNat] := by
  rw [take_snoc (d := 0) h]
  simp [wordOf]
def WordPost (x : List Int) (w : World) (e : Ending) (w' : World) : Prop := ∃ A c, e = .returned (.slice A x.length c) ∧ OwnI w.heap.size w' (.slice A x.length c) x ∧ Below w.heap.size w w'
set_option maxRecDepth 100000 in
set_option maxHeartbeats 1000000 in
theorem wordOf39_any (w : World) (v : Value) (l : List Int) (g : Nat) (h : IntsAt w v l) (hg : 1 ≤ g ∧ g ≤ 1000) (hl : l.length ≤ 1000000) : Calls Try.prog 47 #[v, .int .i64 (g : Int)] w (WordPost (wordOf g l) w) := by
  obtain ⟨A, c, rfl, h1, h2, h3⟩ := h.open_
  have HL := Lib.hid h3
  have HF := Lib.hid h.2
  have h0 : OwnI w.heap.size w (.slice none 0 0) [] := World.ownsRow_nil _ _ _ _
  have H0 := Lib.hid h0
  have hg0 : (0 : Int) ≤ (g : Int) := Int.natCast_nonneg _
  have hg1 : (g : Int) ≤ 1000 := by omega
  have hgg : 2 * (g : Int) = ((2 * g : Nat) : Int) := by omega
  have HGG := Lib.hid hgg
  clear h h3 h0 hgg
  unfold WordPost
  go_enter Try.func47, Try.ntmps47
  go_wp2_with fail
  go_loopw [5, 6] (fun so i wr => ∃ k : Nat, i = .int .i64 k ∧ k ≤ l.length ∧ ∃ A c, so = .slice A k c ∧ Hid (OwnI w.heap.size wr so (wordOf g (l.take k))) ∧ Hid (Below w.heap.size w wr)) (fun _ i _ => l.length - (intOf i).toNat)
  case atStart => exact ⟨0, rfl, by omega, none, 0, rfl, H0, Lib.hid (Below.refl _ _)⟩
  case round =>
    clear H0
    obtain ⟨k, rfl, hk, A2, c2, rfl, HO, HB⟩ := hrel
    have hk0 : (0 : Int) ≤ (k : Int) := Int.natCast_nonneg _
    by_cases hlt : k < l.length
    · have hlt' : (k : Int) < (l.length : Int) := by omega
      obtain ⟨b, o, rfl, hcc⟩ := HL.out (by omega)
      have hu0 := hcc k hlt
      have hu := (HB.out.cell (p := ⟨b, o + k, none⟩) (World.block_lt_of_cell? w _ hu0)).trans hu0
      have HW := Lib.hid (wordOf_take (g := g) hlt)
      have hm0 := Int.emod_nonneg (l.getD k 0) (show ((2 * g : Nat) : Int) ≠ 0 by omega)
      have hm1 := Int.emod_lt_of_pos (l.getD k 0) (show (0 : Int) < ((2 * g : Nat) : Int) by omega)
      have HT : Hid (∀ W, Calls Try.prog 67 #[.int .i64 (l.getD k 0), .int .i64 (2 * (g : Int))] W fun e w' => e = .returned (.int .i64 ((l.getD k 0 % ((2 * g : Nat) : Int)).toNat : Nat)) ∧ w' = W) := Lib.hid fun W => by
        rw [HGG.out, Int.toNat_of_nonneg hm0]
        exact turn59_any W _ (2 * g) (by omega)
      have HLT : Hid (∀ W, Calls Try.prog 69 #[.int .i64 ((l.getD k 0 % ((2 * g : Nat) : Int)).toNat : Nat)] W fun e w' => e = .returned (.int .i64 (letter (l.getD k 0 % ((2 * g : Nat) : Int)).toNat)) ∧ w' = W) := Lib.hid fun W => letter61_any W _ (by omega)
      have hol : (wordOf g (l.take k)).length = k := by rw [length_wordOf, List.length_take]; omega
      obtain ⟨A', c', w', hr, ho, hgr, hw⟩ := push_int 25 25 Try.underlying25 wr w.heap.size _ _ HO.out (letter (l.getD k 0 % ((2 * g : Nat) : Int)).toNat) (by omega) HB.out.size
      rw [hol] at hr ho
      rw [← HW.out] at ho
      have HR := Lib.hid hr
      have HO' := Lib.hid ho
      have HB' : Hid (Below w.heap.size w w') := Lib.hid (HB.out.grown hgr HB.out.size fun r hr => (owns_block HO.out r hr).1)
      clear hr ho hw hcc hu0 hgr HW hol hm0 hm1
      generalize (l.getD k 0 % ((2 * g : Nat) : Int)).toNat = n at *
      generalize letter n = z at *
      generalize l.getD k 0 = x at *
      go_wp2_with (first
        | (go_at_call 67; (refine (HT.out _).mono ?_); rintro e w1 ⟨rfl, rfl⟩)
        | (go_at_call 69; (refine (HLT.out _).mono ?_); rintro e w1 ⟨rfl, rfl⟩)
        | ((with_reducible refine wpList_sel 23 ?_); refine wpList_val rfl (r_app (.tmp 13) (.tmp 22) 25 rfl rfl rfl HR.out) ?_))
      go_roundw
      case rel => exact ⟨k + 1, by go_num, by omega, _, _, rfl, HO', HB'⟩
      case measure => simp [intOf]; omega
    · obtain rfl : k = l.length := by omega
      have ho := HO.out
      rw [List.take_of_length_le (Nat.le_refl _)] at ho
      have HE : Hid (∃ A c, Ending.returned (.slice A2 l.length c2) = .returned (.slice A (wordOf g l).length c) ∧ OwnI w.heap.size wr (.slice A (wordOf g l).length c) (wordOf g l) ∧ Below w.heap.size w wr) := Lib.hid ⟨A2, c2, by rw [length_wordOf], by rw [length_wordOf]; exact ho, HB.out⟩
      clear ho
      go_wp2_with fail
      go_ret
      exact HE.out
end Go.Proofs
