/- The contract of overlaps$1, the iterator: it hands over the overlaps, in order; Two arrays of twelve numbers compared. -/
import Derived.Test.YtffkmchmakfcpaaOrCS14
import Derived.ChangeKeysEq
import Derived.RangeFuncNested
namespace Go.Proofs
open Go.RowKit Go.Proofs.Pc
theorem wide_depth : Fence.wide.depth = none := rfl
attribute [local simp, local go_sem] wide_fn wide_depth
theorem Pc.Pre.len_le {pre l : List (List Int × List Int)} {x : List Int × List Int} (h : Pre (pre ++ [x]) l) : pre.length ≤ l.length := by
  obtain ⟨s, rfl⟩ := h
  simp
def sv4 (P : PcD) (l _tb br i _j _k _bx _by_ _byx _bc _bz : Nat) (_CV : List Int) : List SV := [SV.c (.func (.yield l) #[] #[]), SV.c (.pointer (some ⟨br, 0, none⟩)), SV.c (.pointer (some ⟨br, 0, none⟩)), SV.c (.int .i64 (i : Int)), SV.c (.pointer (some ⟨br, 0, none⟩)), SV.c (.pointer (some ⟨br, 13, none⟩)), SV.c (.pointer (some ⟨br, 13 + i * 12, none⟩)), SV.c (.agg (vec (P.pow i)).toArray), SV.c (.agg (vec (uP P i 1)).toArray), SV.vs [(P.pow i), (uP P i 1)], SV.c (.agg (vec (mulP P (P.pow i) (uP P i 1))).toArray), SV.c (.pointer (some ⟨br, 0, none⟩)), SV.c (.agg (vec (uP P i 1)).toArray), SV.c (.pointer (some ⟨br, 0, none⟩)), SV.c (.int .i64 (i : Int)), SV.c (.pointer (some ⟨br, 0, none⟩)), SV.c (.pointer (some ⟨br, 13, none⟩)), SV.c (.pointer (some ⟨br, 13 + i * 12, none⟩)), SV.c (.agg (vec (P.pow i)).toArray), SV.vs [(uP P i 1), (P.pow i)], SV.c (.agg (vec (mulP P (uP P i 1) (P.pow i))).toArray)]
def sv10 (P : PcD) (l _tb br i j _k _bx _by_ _byx _bc _bz : Nat) (_CV : List Int) : List SV := [SV.c (.func (.yield l) #[] #[]), SV.c (.pointer (some ⟨br, 0, none⟩)), SV.c (.pointer (some ⟨br, 0, none⟩)), SV.c (.int .i64 (j : Int)), SV.c (.pointer (some ⟨br, 0, none⟩)), SV.c (.pointer (some ⟨br, 13, none⟩)), SV.c (.pointer (some ⟨br, 13 + j * 12, none⟩)), SV.c (.agg (vec (P.pow j)).toArray), SV.c (.agg (vec (uP P i 1)).toArray), SV.vs [(P.pow j), (uP P i 1)], SV.c (.agg (vec (mulP P (P.pow j) (uP P i 1))).toArray), SV.c (.pointer (some ⟨br, 0, none⟩)), SV.c (.int .i64 (j : Int)), SV.c (.pointer (some ⟨br, 0, none⟩)), SV.c (.int .i64 (j : Int)), SV.c (.pointer (some ⟨br, 0, none⟩)), SV.c (.pointer (some ⟨br, 1, none⟩)), SV.c (.pointer (some ⟨br, 1 + j, none⟩)), SV.c (.int .i64 (P.ord j)), SV.c (.int .i64 (P.ord j - 1)), SV.c (.agg (vec (uP P j (P.ord j - 1))).toArray), SV.c (.agg (vec (mulP P (uP P j 1) (uP P i 1))).toArray), SV.vs [(uP P j (P.ord j - 1)), (mulP P (uP P j 1) (uP P i 1))], SV.c (.agg (vec (mulP P (uP P j (P.ord j - 1)) (mulP P (uP P j 1) (uP P i 1)))).toArray)]
def sv16 (P : PcD) (l _tb br i j _k _bx _by_ _byx bc _bz : Nat) (CV : List Int) : List SV := [SV.c (.func (.yield l) #[] #[]), SV.c (.pointer (some ⟨bc, 0, none⟩)), SV.c (.pointer (some ⟨bc, 0, none⟩)), SV.c (.pointer (some ⟨bc, 1, none⟩)), SV.c (.agg (vec CV).toArray), SV.c (.pointer (some ⟨br, 0, none⟩)), SV.c (.agg (vec (uP P j 1)).toArray), SV.c (.pointer (some ⟨br, 0, none⟩)), SV.c (.int .i64 (i : Int)), SV.c (.pointer (some ⟨br, 0, none⟩)), SV.c (.pointer (some ⟨br, 13, none⟩)), SV.c (.pointer (some ⟨br, 13 + i * 12, none⟩)), SV.c (.agg (vec (P.pow i)).toArray), SV.vs [(uP P j 1), (P.pow i)], SV.c (.agg (vec (mulP P (uP P j 1) (P.pow i))).toArray)]
def sv21 (P : PcD) (l _tb br i j k _bx _by_ _byx _bc _bz : Nat) (_CV : List Int) : List SV := [SV.c (.func (.yield l) #[] #[]), SV.c (.pointer (some ⟨br, 0, none⟩)), SV.c (.agg (vec (uP P k 1)).toArray), SV.c (.agg (vec (uP P j 1)).toArray), SV.c (.agg (vec (uP P i 1)).toArray), SV.vs [(uP P k 1), (uP P j 1), (uP P i 1)], SV.c (.agg (vec (mulP P (mulP P (uP P k 1) (uP P j 1)) (uP P i 1))).toArray), SV.c (.pointer (some ⟨br, 0, none⟩)), SV.c (.agg (vec (uP P k 1)).toArray), SV.c (.agg (vec (mulP P (uP P j 1) (uP P i 1))).toArray), SV.vs [(uP P k 1), (mulP P (uP P j 1) (uP P i 1))], SV.c (.agg (vec (mulP P (uP P k 1) (mulP P (uP P j 1) (uP P i 1)))).toArray)]
def ItPost (P : PcD) (J Jx : List (List Int × List Int) → World → Prop) (e : Ending) (W' : World) : Prop :=
  (∃ v, e = .returned v) ∧ ((∃ xs, xs = ovl P ∧ J xs W') ∨ (∃ pre, Pre pre (ovl P) ∧ Jx pre W'))
set_option maxRecDepth 100000 in
set_option maxHeartbeats 4000000 in
theorem it_walk {P : PcD} (hv : Valid P) (n : Nat) (l tb br : Nat) (J Jx : List (List Int × List Int) → World → Prop) (W : World) (hr : RulesAt W br P) (ht : W.cell? ⟨tb, 0, none⟩ = some (.pointer (some ⟨br, 0, none⟩)))
    (hJ : AbidesFrom W.heap.size J) (_hJx : AbidesFrom W.heap.size Jx)
    (hY : ∀ pre x W1, J pre W1 → pre.length < (ovl P).length + 1 → YieldAt Fence.wide (n - 1) Try.prog l (encP x) W1 fun e W' =>
      (e = .returned (.bool true) ∧ J (pre ++ [x]) W' ∧ KC W1 W') ∨ (e = .returned (.bool false) ∧ Jx (pre ++ [x]) W'))
    (h0 : J [] W) :
    CallsIn Fence.wide n Try.prog 106 #[.func (.yield l) #[] #[], .pointer (some ⟨tb, 0, none⟩)] W (ItPost P J Jx) := by
  have hn12 := hv.n12
  have hJb : ∀ {pre : List (List Int × List Int)} {w w' : World}, J pre w → Below w.heap.size w w' → J pre w' := fun h hb => hJ _ _ _ none h (only_of_below hb none) (fun r e => by cases e)
  have hrn := hr.n
  have HY := Lib.hid hY
  have HJb := @hJb
  have H0 := Lib.hid h0
  have HR := Lib.hid hr
  have HT := Lib.hid ht
  clear hY hJ _hJx hJb h0 hr
  gi_enter Try.func106, Try.ntmps106
  gi_wp2_with fail
  gi_loopw [3, 15] (fun _ s wr => ∃ i : Nat, i ≤ P.n ∧ s = .int .i64 i ∧ J (ovI P i) wr ∧ KC W wr) (fun _ s _ => P.n - (intOf s).toNat)
  case atStart => exact ⟨0, Nat.zero_le _, rfl, H0.out, KC.refl _⟩
  case round =>
    obtain ⟨i, hi, rfl, hj0, hk0⟩ := hrel
    have HJ0 := Lib.hid hj0
    have HK0 := Lib.hid hk0
    clear hj0 hk0
    by_cases hlt : i < P.n
    · have hi0 : (0 : Int) ≤ (i : Int) := Int.natCast_nonneg _
      have hi12 : (i : Int) < 12 := by omega
      have htr := HK0.out.cell HT.out
      have hst := @store_vec_new
      gi_wp2_with (gi_at_call 83; refine (callsIn_wide.2 (unit_R P i 1 hlt hn12)).mono ?_; rintro e w1 ⟨v, rfl, rfl, hb1⟩)
      have hnx : NV P (uP P i 1) := uP_NV hv (by omega) (fun h => by have := hv.ord2 i h; omega)
      have hnpi : NV P (P.pow i) := norm_NV (hv.pow i hlt)
      have hkw1 : KC W (w1.alloc (.cells (vec (uP P i 1)).toArray 87)) := HK0.out.trans (KC.of_below (hb1.alloc hb1.size _))
      have hj1 : J (ovI P i) (w1.alloc (.cells (vec (uP P i 1)).toArray 87)) := HJb HJ0.out (hb1.alloc hb1.size _)
      have hrx1 := range_new w1 (uP P i 1)
      generalize w1.alloc (.cells (vec (uP P i 1)).toArray 87) = W1 at *
      generalize w1.heap.size = bx at *
      have hfw : ∀ {w : World}, Below W1.heap.size W1 w → RulesAt w br P ∧ w.cell? ⟨tb, 0, none⟩ = some (.pointer (some ⟨br, 0, none⟩)) := fun h => ⟨((hkw1.trans (KC.of_below h)).rules HR.out), (hkw1.trans (KC.of_below h)).cell HT.out⟩
      have hrx : ∀ {w : World}, Below W1.heap.size W1 w → w.rangeAt bx 0 (vec (uP P i 1)) := fun h => (KC.of_below h).range hrx1
      have hY := HY.out
      clear hb1 HJ0 HK0 htr hst
      refine wpIn_region_tail (by kernel_rfl) 20 21 (tailed_of (by kernel_rfl)) (fun w => Below W1.heap.size W1 w) (fun q v w => ((sv4 P l tb br i 0 0 bx 0 0 0 0 []).getD q SV.any).holds v w) (fun w w' => Below w.heap.size w w') (fun q v w w' h => SV.keep h) (Nat.le_of_ble_eq_true rfl) (Below.refl _ _).drew ?_ ?_
      · intro q o a w hq ho hS hsame hpre
        have hcases : q = 0 ∨ q = 1 ∨ q = 2 ∨ q = 3 ∨ q = 4 ∨ q = 5 ∨ q = 6 ∨ q = 7 ∨ q = 8 ∨ q = 9 ∨ q = 10 ∨ q = 11 ∨ q = 12 ∨ q = 13 ∨ q = 14 ∨ q = 15 ∨ q = 16 ∨ q = 17 ∨ q = 18 ∨ q = 19 ∨ q = 20 := by omega
        rcases hcases with rfl | rfl | rfl | rfl | rfl | rfl | rfl | rfl | rfl | rfl | rfl | rfl | rfl | rfl | rfl | rfl | rfl | rfl | rfl | rfl | rfl
        · obtain rfl := Option.some.inj ho; exact ⟨rfl, rfl, (by exact wpW_val (r_move (.tmp 0) rfl (hsame.out 0 (.inl (by decide)))) ⟨_, rfl, hS, Below.refl _ _, rfl⟩)⟩
        · obtain rfl := Option.some.inj ho; exact ⟨rfl, rfl, (by exact wpW_val (r_load62 (.tmp 1) ⟨tb, 0, none⟩ rfl (hsame.out 1 (.inl (by decide))) (hfw hS).2) ⟨_, rfl, hS, Below.refl _ _, rfl⟩)⟩
        · obtain rfl := Option.some.inj ho; exact ⟨rfl, rfl, (by exact wpW_val (r_load62 (.tmp 1) ⟨tb, 0, none⟩ rfl (hsame.out 1 (.inl (by decide))) (hfw hS).2) ⟨_, rfl, hS, Below.refl _ _, rfl⟩)⟩
        · obtain rfl := Option.some.inj ho; exact ⟨rfl, rfl, (by exact wpW_val (r_move (.tmp 3) rfl (hsame.out 3 (.inl (by decide)))) ⟨_, rfl, hS, Below.refl _ _, rfl⟩)⟩
        · obtain rfl := Option.some.inj ho; exact ⟨rfl, rfl, (by exact wpW_val (r_nil (.tmp 22) _ rfl (hpre ⟨2, .data⟩ (by simp) rfl)) ⟨_, rfl, hS, Below.refl _ _, rfl⟩)⟩
        · obtain rfl := Option.some.inj ho; exact ⟨rfl, rfl, (by exact wpW_val (r_fld (.tmp 24) _ rfl (hpre ⟨4, .data⟩ (by simp) rfl) (fld86_2 _ _ _)) ⟨_, rfl, hS, Below.refl _ _, by show _ = _; rw [show 0 + 13 = 13 from rfl]⟩)⟩
        · obtain rfl := Option.some.inj ho; exact ⟨rfl, rfl, (by exact wpW_val (r_idx (.tmp 25) (.tmp 23) _ _ rfl (hpre ⟨5, .data⟩ (by simp) rfl) (hpre ⟨3, .data⟩ (by simp) rfl) (idx_run 88 87 12 12 Try.underlying88 sz82 _ _ i (by omega) _)) ⟨_, rfl, hS, Below.refl _ _, rfl⟩)⟩
        · obtain rfl := Option.some.inj ho; exact ⟨rfl, rfl, (by exact wpW_val (r_load82 (.tmp 26) _ _ (P.pow i) rfl (hpre ⟨6, .data⟩ (by simp) rfl) ((hfw hS).1.pow i (by omega))) ⟨_, rfl, hS, Below.refl _ _, rfl⟩)⟩
        · obtain rfl := Option.some.inj ho; exact ⟨rfl, rfl, (by exact wpW_val (r_load82 (.tmp 4) _ _ (uP P i 1) rfl (hsame.out 4 (.inl (by decide))) (hrx hS)) ⟨_, rfl, hS, Below.refl _ _, rfl⟩)⟩
        · obtain rfl := Option.some.inj ho; exact ⟨rfl, rfl, (by exact wpW_val (r_bs2 (.tmp 27) (.tmp 28) (P.pow i) (uP P i 1) rfl (hpre ⟨7, .data⟩ (by simp) rfl) (hpre ⟨8, .data⟩ (by simp) rfl)) ⟨_, rfl, hS.trans (((Below.refl _ _).alloc (Nat.le_refl _) _).mono hS.size), (Below.refl _ _).alloc (Nat.le_refl _) _, vecs2 _ (P.pow i) (uP P i 1)⟩)⟩
        · obtain rfl := Option.some.inj ho; exact ⟨rfl, rfl, (by exact wpW_call (r_call2 (.tmp 21) (.tmp 29) _ _ _ rfl (hpre ⟨1, .data⟩ (by simp) rfl) rfl call71) (mul_R hv (hfw hS).1 (hpre ⟨9, .data⟩ (by simp) rfl) hnpi (nvs1 hnx) (by simp)) (fun v w'' h => ⟨v, rfl, hS.trans (h.2.mono hS.size), h.2, h.1⟩))⟩
        · obtain rfl := Option.some.inj ho; exact ⟨rfl, rfl, (by exact wpW_val (r_load62 (.tmp 1) ⟨tb, 0, none⟩ rfl (hsame.out 1 (.inl (by decide))) (hfw hS).2) ⟨_, rfl, hS, Below.refl _ _, rfl⟩)⟩
        · obtain rfl := Option.some.inj ho; exact ⟨rfl, rfl, (by exact wpW_val (r_load82 (.tmp 4) _ _ (uP P i 1) rfl (hsame.out 4 (.inl (by decide))) (hrx hS)) ⟨_, rfl, hS, Below.refl _ _, rfl⟩)⟩
        · obtain rfl := Option.some.inj ho; exact ⟨rfl, rfl, (by exact wpW_val (r_load62 (.tmp 1) ⟨tb, 0, none⟩ rfl (hsame.out 1 (.inl (by decide))) (hfw hS).2) ⟨_, rfl, hS, Below.refl _ _, rfl⟩)⟩
        · obtain rfl := Option.some.inj ho; exact ⟨rfl, rfl, (by exact wpW_val (r_move (.tmp 3) rfl (hsame.out 3 (.inl (by decide)))) ⟨_, rfl, hS, Below.refl _ _, rfl⟩)⟩
        · obtain rfl := Option.some.inj ho; exact ⟨rfl, rfl, (by exact wpW_val (r_nil (.tmp 33) _ rfl (hpre ⟨13, .data⟩ (by simp) rfl)) ⟨_, rfl, hS, Below.refl _ _, rfl⟩)⟩
        · obtain rfl := Option.some.inj ho; exact ⟨rfl, rfl, (by exact wpW_val (r_fld (.tmp 35) _ rfl (hpre ⟨15, .data⟩ (by simp) rfl) (fld86_2 _ _ _)) ⟨_, rfl, hS, Below.refl _ _, by show _ = _; rw [show 0 + 13 = 13 from rfl]⟩)⟩
        · obtain rfl := Option.some.inj ho; exact ⟨rfl, rfl, (by exact wpW_val (r_idx (.tmp 36) (.tmp 34) _ _ rfl (hpre ⟨16, .data⟩ (by simp) rfl) (hpre ⟨14, .data⟩ (by simp) rfl) (idx_run 88 87 12 12 Try.underlying88 sz82 _ _ i (by omega) _)) ⟨_, rfl, hS, Below.refl _ _, rfl⟩)⟩
        · obtain rfl := Option.some.inj ho; exact ⟨rfl, rfl, (by exact wpW_val (r_load82 (.tmp 37) _ _ (P.pow i) rfl (hpre ⟨17, .data⟩ (by simp) rfl) ((hfw hS).1.pow i (by omega))) ⟨_, rfl, hS, Below.refl _ _, rfl⟩)⟩
        · obtain rfl := Option.some.inj ho; exact ⟨rfl, rfl, (by exact wpW_val (r_bs2 (.tmp 32) (.tmp 38) (uP P i 1) (P.pow i) rfl (hpre ⟨12, .data⟩ (by simp) rfl) (hpre ⟨18, .data⟩ (by simp) rfl)) ⟨_, rfl, hS.trans (((Below.refl _ _).alloc (Nat.le_refl _) _).mono hS.size), (Below.refl _ _).alloc (Nat.le_refl _) _, vecs2 _ (uP P i 1) (P.pow i)⟩)⟩
        · obtain rfl := Option.some.inj ho; exact ⟨rfl, rfl, (by exact wpW_call (r_call2 (.tmp 31) (.tmp 39) _ _ _ rfl (hpre ⟨11, .data⟩ (by simp) rfl) rfl call71) (mul_R hv (hfw hS).1 (hpre ⟨19, .data⟩ (by simp) rfl) hnx (nvs1 hnpi) (by simp)) (fun v w'' h => ⟨v, rfl, hS.trans (h.2.mono hS.size), h.2, h.1⟩))⟩
      · intro a w hS hsame hsl
        have hyl := hY (ovI P i) (pI P i) w (HJb hj1 hS) (Nat.lt_succ_of_le (Pre.len_le (pre_I P hlt)))
        have hfr := hsame.frame (Nat.le_of_ble_eq_true rfl)
        refine wpOpIn_of rfl rfl (wpW_yield hyl (fun _ _ _ _ h => r_yield (.tmp 20) (.tmp 30) (.tmp 40) _ _ _ rfl (hsl 0 (by omega)) (hsl 10 (by omega)) (hsl 20 (by omega)) h) ?_)
        rintro e w2 (⟨rfl, hj2, hk2⟩ | ⟨rfl, hj2⟩)
        · refine ⟨true, rfl, wpOpIn_of rfl rfl (wpW_val (r_not (.tmp 41) true rfl (put_getD_same _ _ _ (by rw [hsame.size]; exact Nat.le_of_ble_eq_true rfl))) ?_)⟩
          generalize (fun i => a.tmps.getD (20 + i) undef) = vs at hfr
          subst hfr
          simp only [Act.put, List.take_succ_cons, List.take_zero, List.drop_succ_cons, List.drop_zero, List.map_cons, List.map_nil, List.range, List.range.loop, List.cons_append, List.nil_append, List.setIfInBounds_toArray, Nat.reduceAdd]
          gi_wp2_with fail
          have hk2' : KC W w2 := (hkw1.trans (KC.of_below hS)).trans hk2
          have hrx2 := hk2.range (hrx hS)
          have HJ2 := Lib.hid hj2
          have HK2 := Lib.hid hk2'
          have HRX2 := Lib.hid hrx2
          clear hfw hrx hY hk2 hj2 hk2' hrx2 hyl hsl hsame hS hj1 hrx1 hkw1
          gi_loopw [5] (fun s wr => ∃ j : Nat, i + 1 ≤ j ∧ j ≤ P.n ∧ s = .int .i64 j ∧ J (LJ P i j) wr ∧ KC w2 wr) (fun s _ => P.n - (intOf s).toNat)
          case atStart =>
            refine ⟨i + 1, Nat.le_refl _, by omega, by go_num, ?_, KC.refl _⟩
            rw [LJ_start]
            exact HJ2.out
          case round =>
            obtain ⟨j, hj1, hj2, rfl, hjj, hkj⟩ := hrel
            have HJJ := Lib.hid hjj
            have HKJ := Lib.hid (HK2.out.trans hkj)
            have HRXJ := Lib.hid (hkj.range HRX2.out)
            have HKj := Lib.hid hkj
            have htj := HKJ.out.cell HT.out
            have hnj := HKJ.out.cell HR.out.n
            clear hjj hkj
            by_cases hjlt : j < P.n
            · have hj0 : (0 : Int) ≤ (j : Int) := Int.natCast_nonneg _
              have hj12 : (j : Int) < 12 := by omega
              have hst := @store_vec_new
              have hny : NV P (uP P j 1) := uP_NV hv (by omega) (fun h => by have := hv.ord2 j h; omega)
              gi_wp2_with (first
                | (gi_at_call 83; refine (callsIn_wide.2 (unit_R P j 1 hjlt hn12)).mono ?_; rintro e w3 ⟨v, rfl, rfl, hb3⟩; have ht3 := (KC.of_below hb3).cell htj; have htl3 := World.block_lt_of_cell? w3 _ ht3)
                | ((with_reducible refine wpListIn_sel 56 ?_); refine wpListIn_val rfl (r_load82 (.tmp 6) w3.heap.size 0 (uP P j 1) rfl rfl (range_new _ _)) ?_)
                | ((with_reducible refine wpListIn_sel 57 ?_); refine wpListIn_val rfl (r_load82 (.tmp 4) bx 0 (uP P i 1) rfl rfl (World.rangeAt_alloc ((KC.of_below hb3).range HRXJ.out) _)) ?_)
                | ((with_reducible refine wpListIn_sel 58 ?_); refine wpListIn_val rfl (r_bs2 (.tmp 56) (.tmp 57) (uP P j 1) (uP P i 1) rfl rfl rfl) ?_)
                | ((with_reducible refine wpListIn_sel 59 ?_); refine wpListIn_callW rfl (r_call2 (.tmp 55) (.tmp 58) _ _ _ rfl rfl rfl call71) (mul_R1 hv ((((HKJ.out.below hb3).alloc _).alloc _).rules HR.out) (vecs2 _ _ _) hny hnx) ?_; rintro v w4 ⟨rfl, hb4⟩))
              have hsz3 := hb3.size
              have hbb1 : Below wr.heap.size wr (w3.alloc (.cells (vec (uP P j 1)).toArray 87)) := hb3.alloc hb3.size _
              have hbb2 : Below wr.heap.size wr ((w3.alloc (.cells (vec (uP P j 1)).toArray 87)).alloc (.cells (vec (uP P j 1) ++ vec (uP P i 1)).toArray 87)) := hbb1.alloc hbb1.size _
              have hbb3 : Below wr.heap.size wr w4 := hbb2.trans (hb4.mono hbb2.size)
              have hbb : Below wr.heap.size wr (w4.alloc (.cells (vec (mulP P (uP P j 1) (uP P i 1))).toArray 87)) := hbb3.alloc hbb3.size _
              have hkw3 := HKJ.out.below hbb
              have hj3 := HJb HJJ.out hbb
              have hry1 : (w4.alloc (.cells (vec (mulP P (uP P j 1) (uP P i 1))).toArray 87)).rangeAt w3.heap.size 0 (vec (uP P j 1)) := (((KC.refl _).alloc (.cells (vec (uP P j 1) ++ vec (uP P i 1)).toArray 87)).below hb4).alloc (.cells (vec (mulP P (uP P j 1) (uP P i 1))).toArray 87) |>.range (range_new w3 (uP P j 1))
              have hryx1 := range_new w4 (mulP P (uP P j 1) (uP P i 1))
              have hrx1 := (KC.of_below hbb).range HRXJ.out
              generalize w4.alloc (.cells (vec (mulP P (uP P j 1) (uP P i 1))).toArray 87) = W3 at *
              generalize w4.heap.size = byx at *
              generalize w3.heap.size = by_ at *
              have hfw : ∀ {w : World}, Below W3.heap.size W3 w → RulesAt w br P ∧ w.cell? ⟨tb, 0, none⟩ = some (.pointer (some ⟨br, 0, none⟩)) := fun h => ⟨(hkw3.below h).rules HR.out, (hkw3.below h).cell HT.out⟩
              have hrx : ∀ {w : World}, Below W3.heap.size W3 w → w.rangeAt bx 0 (vec (uP P i 1)) := fun h => (KC.of_below h).range hrx1
              have hry : ∀ {w : World}, Below W3.heap.size W3 w → w.rangeAt by_ 0 (vec (uP P j 1)) := fun h => (KC.of_below h).range hry1
              have hryx : ∀ {w : World}, Below W3.heap.size W3 w → w.rangeAt byx 0 (vec (mulP P (uP P j 1) (uP P i 1))) := fun h => (KC.of_below h).range hryx1
              have hY := HY.out
              have hnyx : NV P (mulP P (uP P j 1) (uP P i 1)) := mulP_NV hv hny
              have hnpj : NV P (P.pow j) := norm_NV (hv.pow j hjlt)
              have hoj := hv.ord2 j hjlt
              have hnm : NV P (uP P j (P.ord j - 1)) := uP_NV hv (by omega) (fun _ => by omega)
              obtain ⟨w2', hw2'⟩ : ∃ w2', w2' = w2 := ⟨_, rfl⟩
              have hkj0 : KC w2' wr := by rw [hw2']; exact HKj.out
              have HW2' := Lib.hid hw2'
              clear hw2'
              clear hb3 hb4 ht3 htl3 hbb1 hbb2 hbb3 hst htj hnj
              refine wpIn_region_tail (by kernel_rfl) 60 24 (tailed_of (by kernel_rfl)) (fun w => Below W3.heap.size W3 w) (fun q v w => ((sv10 P l tb br i j 0 bx by_ byx 0 0 []).getD q SV.any).holds v w) (fun w w' => Below w.heap.size w w') (fun q v w w' h => SV.keep h) (Nat.le_of_ble_eq_true rfl) (Below.refl _ _).drew ?_ ?_
              · intro q o a w hq ho hS hsame hpre
                have hcases : q = 0 ∨ q = 1 ∨ q = 2 ∨ q = 3 ∨ q = 4 ∨ q = 5 ∨ q = 6 ∨ q = 7 ∨ q = 8 ∨ q = 9 ∨ q = 10 ∨ q = 11 ∨ q = 12 ∨ q = 13 ∨ q = 14 ∨ q = 15 ∨ q = 16 ∨ q = 17 ∨ q = 18 ∨ q = 19 ∨ q = 20 ∨ q = 21 ∨ q = 22 ∨ q = 23 := by omega
                rcases hcases with rfl | rfl | rfl | rfl | rfl | rfl | rfl | rfl | rfl | rfl | rfl | rfl | rfl | rfl | rfl | rfl | rfl | rfl | rfl | rfl | rfl | rfl | rfl | rfl
                · obtain rfl := Option.some.inj ho; exact ⟨rfl, rfl, (by exact wpW_val (r_move (.tmp 0) rfl (hsame.out 0 (.inl (by decide)))) ⟨_, rfl, hS, Below.refl _ _, rfl⟩)⟩
                · obtain rfl := Option.some.inj ho; exact ⟨rfl, rfl, (by exact wpW_val (r_load62 (.tmp 1) ⟨tb, 0, none⟩ rfl (hsame.out 1 (.inl (by decide))) (hfw hS).2) ⟨_, rfl, hS, Below.refl _ _, rfl⟩)⟩
                · obtain rfl := Option.some.inj ho; exact ⟨rfl, rfl, (by exact wpW_val (r_load62 (.tmp 1) ⟨tb, 0, none⟩ rfl (hsame.out 1 (.inl (by decide))) (hfw hS).2) ⟨_, rfl, hS, Below.refl _ _, rfl⟩)⟩
                · obtain rfl := Option.some.inj ho; exact ⟨rfl, rfl, (by exact wpW_val (r_move (.tmp 5) rfl (hsame.out 5 (.inl (by decide)))) ⟨_, rfl, hS, Below.refl _ _, rfl⟩)⟩
                · obtain rfl := Option.some.inj ho; exact ⟨rfl, rfl, (by exact wpW_val (r_nil (.tmp 62) _ rfl (hpre ⟨2, .data⟩ (by simp) rfl)) ⟨_, rfl, hS, Below.refl _ _, rfl⟩)⟩
                · obtain rfl := Option.some.inj ho; exact ⟨rfl, rfl, (by exact wpW_val (r_fld (.tmp 64) _ rfl (hpre ⟨4, .data⟩ (by simp) rfl) (fld86_2 _ _ _)) ⟨_, rfl, hS, Below.refl _ _, by show _ = _; rw [show 0 + 13 = 13 from rfl]⟩)⟩
                · obtain rfl := Option.some.inj ho; exact ⟨rfl, rfl, (by exact wpW_val (r_idx (.tmp 65) (.tmp 63) _ _ rfl (hpre ⟨5, .data⟩ (by simp) rfl) (hpre ⟨3, .data⟩ (by simp) rfl) (idx_run 88 87 12 12 Try.underlying88 sz82 _ _ j (by omega) _)) ⟨_, rfl, hS, Below.refl _ _, rfl⟩)⟩
                · obtain rfl := Option.some.inj ho; exact ⟨rfl, rfl, (by exact wpW_val (r_load82 (.tmp 66) _ _ (P.pow j) rfl (hpre ⟨6, .data⟩ (by simp) rfl) ((hfw hS).1.pow j (by omega))) ⟨_, rfl, hS, Below.refl _ _, rfl⟩)⟩
                · obtain rfl := Option.some.inj ho; exact ⟨rfl, rfl, (by exact wpW_val (r_load82 (.tmp 4) _ _ (uP P i 1) rfl (hsame.out 4 (.inl (by decide))) (hrx hS)) ⟨_, rfl, hS, Below.refl _ _, rfl⟩)⟩
                · obtain rfl := Option.some.inj ho; exact ⟨rfl, rfl, (by exact wpW_val (r_bs2 (.tmp 67) (.tmp 68) (P.pow j) (uP P i 1) rfl (hpre ⟨7, .data⟩ (by simp) rfl) (hpre ⟨8, .data⟩ (by simp) rfl)) ⟨_, rfl, hS.trans (((Below.refl _ _).alloc (Nat.le_refl _) _).mono hS.size), (Below.refl _ _).alloc (Nat.le_refl _) _, vecs2 _ (P.pow j) (uP P i 1)⟩)⟩
                · obtain rfl := Option.some.inj ho; exact ⟨rfl, rfl, (by exact wpW_call (r_call2 (.tmp 61) (.tmp 69) _ _ _ rfl (hpre ⟨1, .data⟩ (by simp) rfl) rfl call71) (mul_R hv (hfw hS).1 (hpre ⟨9, .data⟩ (by simp) rfl) hnpj (nvs1 hnx) (by simp)) (fun v w'' h => ⟨v, rfl, hS.trans (h.2.mono hS.size), h.2, h.1⟩))⟩
                · obtain rfl := Option.some.inj ho; exact ⟨rfl, rfl, (by exact wpW_val (r_load62 (.tmp 1) ⟨tb, 0, none⟩ rfl (hsame.out 1 (.inl (by decide))) (hfw hS).2) ⟨_, rfl, hS, Below.refl _ _, rfl⟩)⟩
                · obtain rfl := Option.some.inj ho; exact ⟨rfl, rfl, (by exact wpW_val (r_move (.tmp 5) rfl (hsame.out 5 (.inl (by decide)))) ⟨_, rfl, hS, Below.refl _ _, rfl⟩)⟩
                · obtain rfl := Option.some.inj ho; exact ⟨rfl, rfl, (by exact wpW_val (r_load62 (.tmp 1) ⟨tb, 0, none⟩ rfl (hsame.out 1 (.inl (by decide))) (hfw hS).2) ⟨_, rfl, hS, Below.refl _ _, rfl⟩)⟩
                · obtain rfl := Option.some.inj ho; exact ⟨rfl, rfl, (by exact wpW_val (r_move (.tmp 5) rfl (hsame.out 5 (.inl (by decide)))) ⟨_, rfl, hS, Below.refl _ _, rfl⟩)⟩
                · obtain rfl := Option.some.inj ho; exact ⟨rfl, rfl, (by exact wpW_val (r_nil (.tmp 73) _ rfl (hpre ⟨13, .data⟩ (by simp) rfl)) ⟨_, rfl, hS, Below.refl _ _, rfl⟩)⟩
                · obtain rfl := Option.some.inj ho; exact ⟨rfl, rfl, (by exact wpW_val (r_fld (.tmp 75) _ rfl (hpre ⟨15, .data⟩ (by simp) rfl) (fld86_1 _ _ _)) ⟨_, rfl, hS, Below.refl _ _, by show _ = _; rw [show 0 + 1 = 1 from rfl]⟩)⟩
                · obtain rfl := Option.some.inj ho; exact ⟨rfl, rfl, (by exact wpW_val (r_idx (.tmp 76) (.tmp 74) _ _ rfl (hpre ⟨16, .data⟩ (by simp) rfl) (hpre ⟨14, .data⟩ (by simp) rfl) (idx_run 87 3 1 12 Try.underlying87 sz3 _ _ j (by omega) _)) ⟨_, rfl, hS, Below.refl _ _, (by show _ = _; rw [Nat.mul_one])⟩)⟩
                · obtain rfl := Option.some.inj ho; exact ⟨rfl, rfl, (by exact wpW_val (r_load3 (.tmp 77) _ rfl (hpre ⟨17, .data⟩ (by simp) rfl) ((hfw hS).1.ordc (i := j) (by omega))) ⟨_, rfl, hS, Below.refl _ _, rfl⟩)⟩
                · obtain rfl := Option.some.inj ho; exact ⟨rfl, rfl, (by exact wpW_val (r_sub1 (.tmp 78) (P.ord j) rfl (hpre ⟨18, .data⟩ (by simp) rfl) (by omega)) ⟨_, rfl, hS, Below.refl _ _, rfl⟩)⟩
                · obtain rfl := Option.some.inj ho; exact ⟨rfl, rfl, (by exact wpW_call (r_call2 (.tmp 72) (.tmp 79) _ _ _ rfl (hpre ⟨12, .data⟩ (by simp) rfl) (hpre ⟨19, .data⟩ (by simp) rfl) call81) (unit_R P j _ (by omega) hn12) (fun v w'' h => ⟨v, rfl, hS.trans (h.2.mono hS.size), h.2, h.1⟩))⟩
                · obtain rfl := Option.some.inj ho; exact ⟨rfl, rfl, (by exact wpW_val (r_load82 (.tmp 7) _ _ (mulP P (uP P j 1) (uP P i 1)) rfl (hsame.out 7 (.inl (by decide))) (hryx hS)) ⟨_, rfl, hS, Below.refl _ _, rfl⟩)⟩
                · obtain rfl := Option.some.inj ho; exact ⟨rfl, rfl, (by exact wpW_val (r_bs2 (.tmp 80) (.tmp 81) (uP P j (P.ord j - 1)) (mulP P (uP P j 1) (uP P i 1)) rfl (hpre ⟨20, .data⟩ (by simp) rfl) (hpre ⟨21, .data⟩ (by simp) rfl)) ⟨_, rfl, hS.trans (((Below.refl _ _).alloc (Nat.le_refl _) _).mono hS.size), (Below.refl _ _).alloc (Nat.le_refl _) _, vecs2 _ (uP P j (P.ord j - 1)) (mulP P (uP P j 1) (uP P i 1))⟩)⟩
                · obtain rfl := Option.some.inj ho; exact ⟨rfl, rfl, (by exact wpW_call (r_call2 (.tmp 71) (.tmp 82) _ _ _ rfl (hpre ⟨11, .data⟩ (by simp) rfl) rfl call71) (mul_R hv (hfw hS).1 (hpre ⟨22, .data⟩ (by simp) rfl) hnm (nvs1 hnyx) (by simp)) (fun v w'' h => ⟨v, rfl, hS.trans (h.2.mono hS.size), h.2, h.1⟩))⟩
              · intro a w hS hsame hsl
                have hyl := hY (LJ P i j) (pJ1 P i j) w (HJb hj3 hS) (Nat.lt_succ_of_le (Pre.len_le (pre_1 P hlt hj1 hjlt)))
                have hfr := hsame.frame (Nat.le_of_ble_eq_true rfl)
                refine wpOpIn_of rfl rfl (wpW_yield hyl (fun _ _ _ _ h => r_yield (.tmp 60) (.tmp 70) (.tmp 83) _ _ _ rfl (hsl 0 (by omega)) (hsl 10 (by omega)) (hsl 23 (by omega)) h) ?_)
                rintro e w2 (⟨rfl, hj2, hk2⟩ | ⟨rfl, hj2⟩)
                · refine ⟨true, rfl, wpOpIn_of rfl rfl (wpW_val (r_not (.tmp 84) true rfl (put_getD_same _ _ _ (by rw [hsame.size]; exact Nat.le_of_ble_eq_true rfl))) ?_)⟩
                  generalize (fun i => a.tmps.getD (60 + i) undef) = vs at hfr
                  subst hfr
                  simp only [Act.put, List.take_succ_cons, List.take_zero, List.drop_succ_cons, List.drop_zero, List.map_cons, List.map_nil, List.range, List.range.loop, List.cons_append, List.nil_append, List.setIfInBounds_toArray, Nat.reduceAdd]
                  have hk5 := (hkw3.below hS).trans hk2
                  have hrx5 := hk2.range (hrx hS)
                  have hry5 := hk2.range (hry hS)
                  have hryx5 := hk2.range (hryx hS)
                  have HJ5 := Lib.hid hj2
                  have HK5 := Lib.hid hk5
                  have hkk0 : KC w2' w2 := ((hkj0.below hbb).below hS).trans hk2
                  have HKK0 := Lib.hid hkk0
                  have HRX5 := Lib.hid hrx5
                  have HRY5 := Lib.hid hry5
                  have HRYX5 := Lib.hid hryx5
                  have ht5 := hk5.cell HT.out
                  have htl5 := World.block_lt_of_cell? w2 _ ht5
                  have hr5 := hk5.rules HR.out
                  have hori := hr5.ordc (i := i) (by omega)
                  have hrl5 := hr5.lt
                  have HR5 := Lib.hid hr5
                  clear hfw hrx hry hryx hY hk2 hj2 hk5 hrx5 hry5 hryx5 hyl hsl hsame hS hj3 hkw3 hr5
                  have hoi := hv.ord2 i hlt
                  generalize hoe : P.ord i = oi at *
                  obtain ⟨oi', rfl⟩ := Int.eq_ofNat_of_zero_le (show 0 ≤ oi by omega)
                  have HOE := Lib.hid hoe
                  clear hoe
                  gi_wp2_with (first
                    | ((with_reducible refine wpListIn_sel 87 ?_); refine wpListIn_val rfl (r_load82 (.tmp 6) by_ 0 (uP P j 1) rfl rfl HRY5.out) ?_)
                    | ((with_reducible refine wpListIn_sel 88 ?_); refine wpListIn_val rfl (r_bld113 (.tmp 86) (.tmp 87) br (uP P j 1) rfl rfl rfl) ?_))
                  have hC5 : CollAt (w2.alloc (.cells (Value.pointer (some ⟨br, 0, none⟩) :: vec (uP P j 1)).toArray 117)) w2.heap.size br (uP P j 1) := heap_alloc_new _ _
                  have hb5 : Below w2.heap.size w2 (w2.alloc (.cells (Value.pointer (some ⟨br, 0, none⟩) :: vec (uP P j 1)).toArray 117)) := (Below.refl _ _).alloc (Nat.le_refl _) _
                  generalize w2.alloc (.cells (Value.pointer (some ⟨br, 0, none⟩) :: vec (uP P j 1)).toArray 117) = w5 at *
                  generalize hbce : w2.heap.size = bc at *
                  have HC5 := Lib.hid hC5
                  have HB5 := Lib.hid hb5
                  have HBC := Lib.hid hbce
                  clear hC5 hb5 hbce
                  gi_loopw [96] (fun s wr => ∃ m : Nat, m ≤ oi' ∧ s = .int .i64 m ∧ CollAt wr bc br (iter (timesF P P.n i) m (uP P j 1)) ∧ w5.grownBy wr (some bc)) (fun s _ => oi' - (intOf s).toNat)
                  case atStart => exact ⟨0, Nat.zero_le _, rfl, HC5.out, World.grownBy.refl _ _⟩
                  case round =>
                    obtain ⟨m, hm, rfl, hCm, hGm⟩ := hrel
                    have hb56 : Below w2.heap.size w2 wr := by rw [HBC.out]; exact HB5.out.grown hGm (by have := HB5.out.size; have := HBC.out; omega) (fun k e => by cases e; exact Nat.le_refl _)
                    have hnm' : NV P (iter (timesF P P.n i) m (uP P j 1)) := iter_inv (fun z hz => timesF_NV hv _ i z hlt hz) _ _ hny
                    have HCM := Lib.hid hCm
                    have HGM := Lib.hid hGm
                    have HNM := Lib.hid hnm'
                    have hrm := HR5.out.below hb56
                    have HRM := Lib.hid hrm
                    clear hCm hGm hnm' hrm
                    by_cases hml : m < oi'
                    · gi_wp2_with (gi_at_call 81; refine (callsIn_wide.2 (times_ok hv P.n _ bc br _ i HCM.out HRM.out (by omega) HNM.out hlt (by omega))).mono ?_; rintro e w6 ⟨rfl, hc6, hg6⟩)
                      go_roundw
                      case rel => exact ⟨m + 1, by omega, by go_num, hc6, only_trans HGM.out hg6⟩
                      case measure => simp [intOf]; omega
                    · have hmo : m = oi' := by omega
                      subst hmo
                      gi_wp2_with fail
                      have hCV : (iter (timesF P P.n i) m (uP P j 1), mulP P (uP P j 1) (P.pow i)) = pJ2 P i j := by unfold pJ2; rw [HOE.out, Int.toNat_natCast]
                      have hj5 := HJb HJ5.out hb56
                      have hfw : ∀ {w : World}, Below wr.heap.size wr w → RulesAt w br P ∧ w.cell? ⟨tb, 0, none⟩ = some (.pointer (some ⟨br, 0, none⟩)) := fun h => ⟨((HK5.out.below hb56).below h).rules HR.out, ((HK5.out.below hb56).below h).cell HT.out⟩
                      have hrx : ∀ {w : World}, Below wr.heap.size wr w → w.rangeAt bx 0 (vec (uP P i 1)) := fun h => ((KC.of_below hb56).below h).range HRX5.out
                      have hry : ∀ {w : World}, Below wr.heap.size wr w → w.rangeAt by_ 0 (vec (uP P j 1)) := fun h => ((KC.of_below hb56).below h).range HRY5.out
                      have hryx : ∀ {w : World}, Below wr.heap.size wr w → w.rangeAt byx 0 (vec (mulP P (uP P j 1) (uP P i 1))) := fun h => ((KC.of_below hb56).below h).range HRYX5.out
                      have hrc : ∀ {w : World}, Below wr.heap.size wr w → w.rangeAt bc 1 (vec (iter (timesF P P.n i) m (uP P j 1))) := fun h => (KC.of_below h).range HCM.out.range
                      have hY := HY.out
                      clear ht5 htl5 hori hrl5
                      refine wpIn_region_tail (by kernel_rfl) 102 15 (tailed_of (by kernel_rfl)) (fun w => Below wr.heap.size wr w) (fun q v w => ((sv16 P l tb br i j 0 bx by_ byx bc 0 (iter (timesF P P.n i) m (uP P j 1))).getD q SV.any).holds v w) (fun w w' => Below w.heap.size w w') (fun q v w w' h => SV.keep h) (Nat.le_of_ble_eq_true rfl) (Below.refl _ _).drew ?_ ?_
                      · intro q o a w hq ho hS hsame hpre
                        have hcases : q = 0 ∨ q = 1 ∨ q = 2 ∨ q = 3 ∨ q = 4 ∨ q = 5 ∨ q = 6 ∨ q = 7 ∨ q = 8 ∨ q = 9 ∨ q = 10 ∨ q = 11 ∨ q = 12 ∨ q = 13 ∨ q = 14 := by omega
                        rcases hcases with rfl | rfl | rfl | rfl | rfl | rfl | rfl | rfl | rfl | rfl | rfl | rfl | rfl | rfl | rfl
                        · obtain rfl := Option.some.inj ho; exact ⟨rfl, rfl, (by exact wpW_val (r_move (.tmp 0) rfl (hsame.out 0 (.inl (by decide)))) ⟨_, rfl, hS, Below.refl _ _, rfl⟩)⟩
                        · obtain rfl := Option.some.inj ho; exact ⟨rfl, rfl, (by exact wpW_val (r_move (.tmp 8) rfl (hsame.out 8 (.inl (by decide)))) ⟨_, rfl, hS, Below.refl _ _, rfl⟩)⟩
                        · obtain rfl := Option.some.inj ho; exact ⟨rfl, rfl, (by exact wpW_val (r_nil (.tmp 103) _ rfl (hpre ⟨1, .data⟩ (by simp) rfl)) ⟨_, rfl, hS, Below.refl _ _, rfl⟩)⟩
                        · obtain rfl := Option.some.inj ho; exact ⟨rfl, rfl, (by exact wpW_val (r_fld (.tmp 104) _ rfl (hpre ⟨2, .data⟩ (by simp) rfl) (fld113_1 _ _ _)) ⟨_, rfl, hS, Below.refl _ _, by show _ = _; rw [show 0 + 1 = 1 from rfl]⟩)⟩
                        · obtain rfl := Option.some.inj ho; exact ⟨rfl, rfl, (by exact wpW_val (r_load82 (.tmp 105) _ _ (iter (timesF P P.n i) m (uP P j 1)) rfl (hpre ⟨3, .data⟩ (by simp) rfl) (hrc hS)) ⟨_, rfl, hS, Below.refl _ _, rfl⟩)⟩
                        · obtain rfl := Option.some.inj ho; exact ⟨rfl, rfl, (by exact wpW_val (r_load62 (.tmp 1) ⟨tb, 0, none⟩ rfl (hsame.out 1 (.inl (by decide))) (hfw hS).2) ⟨_, rfl, hS, Below.refl _ _, rfl⟩)⟩
                        · obtain rfl := Option.some.inj ho; exact ⟨rfl, rfl, (by exact wpW_val (r_load82 (.tmp 6) _ _ (uP P j 1) rfl (hsame.out 6 (.inl (by decide))) (hry hS)) ⟨_, rfl, hS, Below.refl _ _, rfl⟩)⟩
                        · obtain rfl := Option.some.inj ho; exact ⟨rfl, rfl, (by exact wpW_val (r_load62 (.tmp 1) ⟨tb, 0, none⟩ rfl (hsame.out 1 (.inl (by decide))) (hfw hS).2) ⟨_, rfl, hS, Below.refl _ _, rfl⟩)⟩
                        · obtain rfl := Option.some.inj ho; exact ⟨rfl, rfl, (by exact wpW_val (r_move (.tmp 3) rfl (hsame.out 3 (.inl (by decide)))) ⟨_, rfl, hS, Below.refl _ _, rfl⟩)⟩
                        · obtain rfl := Option.some.inj ho; exact ⟨rfl, rfl, (by exact wpW_val (r_nil (.tmp 109) _ rfl (hpre ⟨7, .data⟩ (by simp) rfl)) ⟨_, rfl, hS, Below.refl _ _, rfl⟩)⟩
                        · obtain rfl := Option.some.inj ho; exact ⟨rfl, rfl, (by exact wpW_val (r_fld (.tmp 111) _ rfl (hpre ⟨9, .data⟩ (by simp) rfl) (fld86_2 _ _ _)) ⟨_, rfl, hS, Below.refl _ _, by show _ = _; rw [show 0 + 13 = 13 from rfl]⟩)⟩
                        · obtain rfl := Option.some.inj ho; exact ⟨rfl, rfl, (by exact wpW_val (r_idx (.tmp 112) (.tmp 110) _ _ rfl (hpre ⟨10, .data⟩ (by simp) rfl) (hpre ⟨8, .data⟩ (by simp) rfl) (idx_run 88 87 12 12 Try.underlying88 sz82 _ _ i (by omega) _)) ⟨_, rfl, hS, Below.refl _ _, rfl⟩)⟩
                        · obtain rfl := Option.some.inj ho; exact ⟨rfl, rfl, (by exact wpW_val (r_load82 (.tmp 113) _ _ (P.pow i) rfl (hpre ⟨11, .data⟩ (by simp) rfl) ((hfw hS).1.pow i (by omega))) ⟨_, rfl, hS, Below.refl _ _, rfl⟩)⟩
                        · obtain rfl := Option.some.inj ho; exact ⟨rfl, rfl, (by exact wpW_val (r_bs2 (.tmp 108) (.tmp 114) (uP P j 1) (P.pow i) rfl (hpre ⟨6, .data⟩ (by simp) rfl) (hpre ⟨12, .data⟩ (by simp) rfl)) ⟨_, rfl, hS.trans (((Below.refl _ _).alloc (Nat.le_refl _) _).mono hS.size), (Below.refl _ _).alloc (Nat.le_refl _) _, vecs2 _ (uP P j 1) (P.pow i)⟩)⟩
                        · obtain rfl := Option.some.inj ho; exact ⟨rfl, rfl, (by exact wpW_call (r_call2 (.tmp 107) (.tmp 115) _ _ _ rfl (hpre ⟨5, .data⟩ (by simp) rfl) rfl call71) (mul_R hv (hfw hS).1 (hpre ⟨13, .data⟩ (by simp) rfl) hny (nvs1 hnpi) (by simp)) (fun v w'' h => ⟨v, rfl, hS.trans (h.2.mono hS.size), h.2, h.1⟩))⟩
                      · intro a w hS hsame hsl
                        have hyl := hY (LJ P i j ++ [pJ1 P i j]) ((iter (timesF P P.n i) m (uP P j 1), mulP P (uP P j 1) (P.pow i))) w (HJb hj5 hS) (Nat.lt_succ_of_le (Pre.len_le ((hCV ▸ pre_2 P hlt hj1 hjlt))))
                        have hfr := hsame.frame (Nat.le_of_ble_eq_true rfl)
                        refine wpOpIn_of rfl rfl (wpW_yield hyl (fun _ _ _ _ h => r_yield (.tmp 102) (.tmp 106) (.tmp 116) _ _ _ rfl (hsl 0 (by omega)) (hsl 4 (by omega)) (hsl 14 (by omega)) h) ?_)
                        rintro e w2 (⟨rfl, hj2, hk2⟩ | ⟨rfl, hj2⟩)
                        · refine ⟨true, rfl, wpOpIn_of rfl rfl (wpW_val (r_not (.tmp 117) true rfl (put_getD_same _ _ _ (by rw [hsame.size]; exact Nat.le_of_ble_eq_true rfl))) ?_)⟩
                          generalize (fun i => a.tmps.getD (102 + i) undef) = vs at hfr
                          subst hfr
                          rw [hCV] at hj2
                          simp only [Act.put, List.take_succ_cons, List.take_zero, List.drop_succ_cons, List.drop_zero, List.map_cons, List.map_nil, List.range, List.range.loop, List.cons_append, List.nil_append, List.setIfInBounds_toArray, Nat.reduceAdd]
                          gi_wp2_with fail
                          have hkk1 := ((hkk0.below hb56).below hS).trans hk2
                          have hk6 := (((HK5.out.below hb56).below hS).trans hk2)
                          have hrx6 := hk2.range (hrx hS)
                          have hry6 := hk2.range (hry hS)
                          have hryx6 := hk2.range (hryx hS)
                          have HJ6 := Lib.hid hj2
                          have HK6 := Lib.hid hk6
                          have HRX6 := Lib.hid hrx6
                          have HRY6 := Lib.hid hry6
                          have HRYX6 := Lib.hid hryx6
                          clear hfw hrx hry hryx hrc hY hk2 hj2 hk6 hrx6 hry6 hryx6 hyl hsl hsame hS hj5
                          gi_loopw [9] (fun s wr => ∃ k : Nat, j + 1 ≤ k ∧ k ≤ P.n ∧ s = .int .i64 k ∧ J (LK P i j k) wr ∧ KC w2 wr) (fun s _ => P.n - (intOf s).toNat)
                          case atStart =>
                            refine ⟨j + 1, Nat.le_refl _, by omega, by go_num, ?_, KC.refl _⟩
                            rw [LK_start]
                            exact HJ6.out
                          case round =>
                            obtain ⟨k, hk1, hk2, rfl, hjk, hkk⟩ := hrel
                            have HJK := Lib.hid hjk
                            have HKK := Lib.hid (HK6.out.trans hkk)
                            have HRXK := Lib.hid (hkk.range HRX6.out)
                            have HRYK := Lib.hid (hkk.range HRY6.out)
                            have HRYXK := Lib.hid (hkk.range HRYX6.out)
                            have HKk := Lib.hid hkk
                            have htk := HKK.out.cell HT.out
                            have hnk := HKK.out.cell HR.out.n
                            clear hjk
                            by_cases hklt : k < P.n
                            · have hk0 : (0 : Int) ≤ (k : Int) := Int.natCast_nonneg _
                              have hk12 : (k : Int) < 12 := by omega
                              have hst := @store_vec_new
                              have hnz : NV P (uP P k 1) := uP_NV hv (by omega) (fun h => by have := hv.ord2 k h; omega)
                              gi_wp2_with (gi_at_call 83; refine (callsIn_wide.2 (unit_R P k 1 hklt hn12)).mono ?_; rintro e w7 ⟨v, rfl, rfl, hb7⟩)
                              have hbz : Below wr.heap.size wr (w7.alloc (.cells (vec (uP P k 1)).toArray 87)) := hb7.alloc hb7.size _
                              have hj7 := HJb HJK.out hbz
                              have hrz1 := range_new w7 (uP P k 1)
                              generalize w7.alloc (.cells (vec (uP P k 1)).toArray 87) = W7 at *
                              generalize w7.heap.size = bz at *
                              have hfw : ∀ {w : World}, Below W7.heap.size W7 w → RulesAt w br P ∧ w.cell? ⟨tb, 0, none⟩ = some (.pointer (some ⟨br, 0, none⟩)) := fun h => ⟨((HKK.out.below hbz).below h).rules HR.out, ((HKK.out.below hbz).below h).cell HT.out⟩
                              have hrx : ∀ {w : World}, Below W7.heap.size W7 w → w.rangeAt bx 0 (vec (uP P i 1)) := fun h => ((KC.of_below hbz).below h).range HRXK.out
                              have hry : ∀ {w : World}, Below W7.heap.size W7 w → w.rangeAt by_ 0 (vec (uP P j 1)) := fun h => ((KC.of_below hbz).below h).range HRYK.out
                              have hryx : ∀ {w : World}, Below W7.heap.size W7 w → w.rangeAt byx 0 (vec (mulP P (uP P j 1) (uP P i 1))) := fun h => ((KC.of_below hbz).below h).range HRYXK.out
                              have hrz : ∀ {w : World}, Below W7.heap.size W7 w → w.rangeAt bz 0 (vec (uP P k 1)) := fun h => (KC.of_below h).range hrz1
                              have hY := HY.out
                              have hnyx : NV P (mulP P (uP P j 1) (uP P i 1)) := mulP_NV hv hny
                              clear hb7 hst htk hnk
                              clear hrz1
                              refine wpIn_region_tail (by kernel_rfl) 131 12 (tailed_of (by kernel_rfl)) (fun w => Below W7.heap.size W7 w) (fun q v w => ((sv21 P l tb br i j k bx by_ byx 0 bz []).getD q SV.any).holds v w) (fun w w' => Below w.heap.size w w') (fun q v w w' h => SV.keep h) (Nat.le_of_ble_eq_true rfl) (Below.refl _ _).drew ?_ ?_
                              · intro q o a w hq ho hS hsame hpre
                                have hcases : q = 0 ∨ q = 1 ∨ q = 2 ∨ q = 3 ∨ q = 4 ∨ q = 5 ∨ q = 6 ∨ q = 7 ∨ q = 8 ∨ q = 9 ∨ q = 10 ∨ q = 11 := by omega
                                rcases hcases with rfl | rfl | rfl | rfl | rfl | rfl | rfl | rfl | rfl | rfl | rfl | rfl
                                · obtain rfl := Option.some.inj ho; exact ⟨rfl, rfl, (by exact wpW_val (r_move (.tmp 0) rfl (hsame.out 0 (.inl (by decide)))) ⟨_, rfl, hS, Below.refl _ _, rfl⟩)⟩
                                · obtain rfl := Option.some.inj ho; exact ⟨rfl, rfl, (by exact wpW_val (r_load62 (.tmp 1) ⟨tb, 0, none⟩ rfl (hsame.out 1 (.inl (by decide))) (hfw hS).2) ⟨_, rfl, hS, Below.refl _ _, rfl⟩)⟩
                                · obtain rfl := Option.some.inj ho; exact ⟨rfl, rfl, (by exact wpW_val (r_load82 (.tmp 10) _ _ (uP P k 1) rfl (hsame.out 10 (.inl (by decide))) (hrz hS)) ⟨_, rfl, hS, Below.refl _ _, rfl⟩)⟩
                                · obtain rfl := Option.some.inj ho; exact ⟨rfl, rfl, (by exact wpW_val (r_load82 (.tmp 6) _ _ (uP P j 1) rfl (hsame.out 6 (.inl (by decide))) (hry hS)) ⟨_, rfl, hS, Below.refl _ _, rfl⟩)⟩
                                · obtain rfl := Option.some.inj ho; exact ⟨rfl, rfl, (by exact wpW_val (r_load82 (.tmp 4) _ _ (uP P i 1) rfl (hsame.out 4 (.inl (by decide))) (hrx hS)) ⟨_, rfl, hS, Below.refl _ _, rfl⟩)⟩
                                · obtain rfl := Option.some.inj ho; exact ⟨rfl, rfl, (by exact wpW_val (r_bs3 (.tmp 133) (.tmp 134) (.tmp 135) (uP P k 1) (uP P j 1) (uP P i 1) rfl (hpre ⟨2, .data⟩ (by simp) rfl) (hpre ⟨3, .data⟩ (by simp) rfl) (hpre ⟨4, .data⟩ (by simp) rfl)) ⟨_, rfl, hS.trans (((Below.refl _ _).alloc (Nat.le_refl _) _).mono hS.size), (Below.refl _ _).alloc (Nat.le_refl _) _, vecs3 _ (uP P k 1) (uP P j 1) (uP P i 1)⟩)⟩
                                · obtain rfl := Option.some.inj ho; exact ⟨rfl, rfl, (by exact wpW_call (r_call2 (.tmp 132) (.tmp 136) _ _ _ rfl (hpre ⟨1, .data⟩ (by simp) rfl) rfl call71) (mul_R hv (hfw hS).1 (hpre ⟨5, .data⟩ (by simp) rfl) hnz (nvs2 hny hnx) (by simp)) (fun v w'' h => ⟨v, rfl, hS.trans (h.2.mono hS.size), h.2, h.1⟩))⟩
                                · obtain rfl := Option.some.inj ho; exact ⟨rfl, rfl, (by exact wpW_val (r_load62 (.tmp 1) ⟨tb, 0, none⟩ rfl (hsame.out 1 (.inl (by decide))) (hfw hS).2) ⟨_, rfl, hS, Below.refl _ _, rfl⟩)⟩
                                · obtain rfl := Option.some.inj ho; exact ⟨rfl, rfl, (by exact wpW_val (r_load82 (.tmp 10) _ _ (uP P k 1) rfl (hsame.out 10 (.inl (by decide))) (hrz hS)) ⟨_, rfl, hS, Below.refl _ _, rfl⟩)⟩
                                · obtain rfl := Option.some.inj ho; exact ⟨rfl, rfl, (by exact wpW_val (r_load82 (.tmp 7) _ _ (mulP P (uP P j 1) (uP P i 1)) rfl (hsame.out 7 (.inl (by decide))) (hryx hS)) ⟨_, rfl, hS, Below.refl _ _, rfl⟩)⟩
                                · obtain rfl := Option.some.inj ho; exact ⟨rfl, rfl, (by exact wpW_val (r_bs2 (.tmp 139) (.tmp 140) (uP P k 1) (mulP P (uP P j 1) (uP P i 1)) rfl (hpre ⟨8, .data⟩ (by simp) rfl) (hpre ⟨9, .data⟩ (by simp) rfl)) ⟨_, rfl, hS.trans (((Below.refl _ _).alloc (Nat.le_refl _) _).mono hS.size), (Below.refl _ _).alloc (Nat.le_refl _) _, vecs2 _ (uP P k 1) (mulP P (uP P j 1) (uP P i 1))⟩)⟩
                                · obtain rfl := Option.some.inj ho; exact ⟨rfl, rfl, (by exact wpW_call (r_call2 (.tmp 138) (.tmp 141) _ _ _ rfl (hpre ⟨7, .data⟩ (by simp) rfl) rfl call71) (mul_R hv (hfw hS).1 (hpre ⟨10, .data⟩ (by simp) rfl) hnz (nvs1 hnyx) (by simp)) (fun v w'' h => ⟨v, rfl, hS.trans (h.2.mono hS.size), h.2, h.1⟩))⟩
                              · intro a w hS hsame hsl
                                have hyl := hY (LK P i j k) (pK P i j k) w (HJb hj7 hS) (Nat.lt_succ_of_le (Pre.len_le (pre_3 P hlt hj1 hjlt hk1 hklt)))
                                have hfr := hsame.frame (Nat.le_of_ble_eq_true rfl)
                                refine wpOpIn_of rfl rfl (wpW_yield hyl (fun _ _ _ _ h => r_yield (.tmp 131) (.tmp 137) (.tmp 142) _ _ _ rfl (hsl 0 (by omega)) (hsl 6 (by omega)) (hsl 11 (by omega)) h) ?_)
                                rintro e w2 (⟨rfl, hj2, hk2⟩ | ⟨rfl, hj2⟩)
                                · refine ⟨true, rfl, wpOpIn_of rfl rfl (wpW_val (r_not (.tmp 143) true rfl (put_getD_same _ _ _ (by rw [hsame.size]; exact Nat.le_of_ble_eq_true rfl))) ?_)⟩
                                  generalize (fun i => a.tmps.getD (131 + i) undef) = vs at hfr
                                  subst hfr
                                  simp only [Act.put, List.take_succ_cons, List.take_zero, List.drop_succ_cons, List.drop_zero, List.map_cons, List.map_nil, List.range, List.range.loop, List.cons_append, List.nil_append, List.setIfInBounds_toArray, Nat.reduceAdd]
                                  gi_wp2_with fail
                                  go_roundw
                                  case rel => exact ⟨k + 1, by omega, by omega, by go_num, by (rw [LK_succ P hk1]; exact hj2), hkk.trans (((KC.of_below hbz).trans (KC.of_below hS)).trans hk2)⟩
                                  case measure => simp [intOf]; omega
                                · refine ⟨false, rfl, wpOpIn_of rfl rfl (wpW_val (r_not (.tmp 143) false rfl (put_getD_same _ _ _ (by rw [hsame.size]; exact Nat.le_of_ble_eq_true rfl))) ?_)⟩
                                  generalize (fun i => a.tmps.getD (131 + i) undef) = vs at hfr
                                  subst hfr
                                  simp only [Act.put, List.take_succ_cons, List.take_zero, List.drop_succ_cons, List.drop_zero, List.map_cons, List.map_nil, List.range, List.range.loop, List.cons_append, List.nil_append, List.setIfInBounds_toArray, Nat.reduceAdd]
                                  gi_wp2_with fail
                                  refine bodyPost_ret (results_none rfl _ _ _) rfl ⟨⟨_, rfl⟩, .inr ⟨_, pre_3 P hlt hj1 hjlt hk1 hklt, hj2⟩⟩
                            · have hkn : k = P.n := by omega
                              subst hkn
                              gi_wp2_with fail
                              go_roundw
                              case rel => exact ⟨j + 1, by omega, by omega, by go_num, by (rw [← LK_end P hj1]; exact HJK.out), (by rw [← HW2'.out]; exact hkk1.trans hkk)⟩
                              case measure => simp [intOf]; omega
                        · refine ⟨false, rfl, wpOpIn_of rfl rfl (wpW_val (r_not (.tmp 117) false rfl (put_getD_same _ _ _ (by rw [hsame.size]; exact Nat.le_of_ble_eq_true rfl))) ?_)⟩
                          generalize (fun i => a.tmps.getD (102 + i) undef) = vs at hfr
                          subst hfr
                          rw [hCV] at hj2
                          simp only [Act.put, List.take_succ_cons, List.take_zero, List.drop_succ_cons, List.drop_zero, List.map_cons, List.map_nil, List.range, List.range.loop, List.cons_append, List.nil_append, List.setIfInBounds_toArray, Nat.reduceAdd]
                          gi_wp2_with fail
                          refine bodyPost_ret (results_none rfl _ _ _) rfl ⟨⟨_, rfl⟩, .inr ⟨_, pre_2 P hlt hj1 hjlt, hj2⟩⟩
                  
                · refine ⟨false, rfl, wpOpIn_of rfl rfl (wpW_val (r_not (.tmp 84) false rfl (put_getD_same _ _ _ (by rw [hsame.size]; exact Nat.le_of_ble_eq_true rfl))) ?_)⟩
                  generalize (fun i => a.tmps.getD (60 + i) undef) = vs at hfr
                  subst hfr
                  simp only [Act.put, List.take_succ_cons, List.take_zero, List.drop_succ_cons, List.drop_zero, List.map_cons, List.map_nil, List.range, List.range.loop, List.cons_append, List.nil_append, List.setIfInBounds_toArray, Nat.reduceAdd]
                  gi_wp2_with fail
                  refine bodyPost_ret (results_none rfl _ _ _) rfl ⟨⟨_, rfl⟩, .inr ⟨_, pre_1 P hlt hj1 hjlt, hj2⟩⟩
            · have hjn : j = P.n := by omega
              subst hjn
              gi_wp2_with fail
              go_roundw
              case rel => exact ⟨i + 1, by omega, by go_num, by (rw [← LJ_end]; exact HJJ.out), HKJ.out⟩
              case measure => simp [intOf]; omega
        · refine ⟨false, rfl, wpOpIn_of rfl rfl (wpW_val (r_not (.tmp 41) false rfl (put_getD_same _ _ _ (by rw [hsame.size]; exact Nat.le_of_ble_eq_true rfl))) ?_)⟩
          generalize (fun i => a.tmps.getD (20 + i) undef) = vs at hfr
          subst hfr
          simp only [Act.put, List.take_succ_cons, List.take_zero, List.drop_succ_cons, List.drop_zero, List.map_cons, List.map_nil, List.range, List.range.loop, List.cons_append, List.nil_append, List.setIfInBounds_toArray, Nat.reduceAdd]
          gi_wp2_with fail
          refine bodyPost_ret (results_none rfl _ _ _) rfl ⟨⟨_, rfl⟩, .inr ⟨_, pre_I P hlt, hj2⟩⟩
    · have hin : i = P.n := by omega
      subst hin
      gi_wp2_with fail
      refine bodyPost_end (results_none rfl _ _ _) rfl ⟨⟨_, rfl⟩, .inl ⟨_, rfl, HJ0.out⟩⟩
end Go.Proofs
namespace Go.Proofs
open Go.RowKit Go.Proofs.Pc
theorem vec_get (xs : List Int) {k : Nat} (h : k < 12) : (vec xs).toArray[k]? = some (.int .i64 (xs.getD k 0)) := by
  unfold vec
  rw [List.getElem?_toArray, List.getElem?_map, List.getElem?_range h]
  rfl
theorem plain3 : Try.prog.plainKey 3 = true := by kernel_rfl
theorem und82 : Try.prog.underlying 87 = some (.array 12 3) := by kernel_rfl
theorem und3 : Try.prog.underlying 3 = some (.int .i64) := by kernel_rfl
theorem cellsOf3 : Try.prog.cellsOf 3 = 1 := by kernel_rfl
theorem info3 : ∃ i, Try.prog.info? 3 = some i := by
  have h : (Try.prog.info? 3).isSome = true := by kernel_rfl
  exact Option.isSome_iff_exists.1 h
theorem eqItems12 (xs ys : List Int) (w : World) : ∀ (is : List Nat), (∀ i ∈ is, i < 12) → (Op.eqItems 9999 3 1 (vec xs).toArray (vec ys).toArray is).run Try.prog w = .ok (is.all fun k => xs.getD k 0 == ys.getD k 0) w
  | [], _ => by simp [Op.eqItems]
  | i :: is, h => by
    have hi := h i (by simp)
    have ih := eqItems12 xs ys w is (fun j hj => h j (by simp [hj]))
    have h1 := run_part_plain w plain3 (vec_get xs hi)
    have h2 := run_part_plain w plain3 (vec_get ys hi)
    have h3 := run_equalIn_int (P := Try.prog) w 9998 3 .i64 .i64 (xs.getD i 0) (ys.getD i 0) und3
    simp only [Op.eqItems, Sem.run_bind, Nat.mul_one, h1, h2, h3, Result.andThen_ok, List.all_cons]
    cases xs.getD i 0 == ys.getD i 0
    · simp
    · simpa using ih
theorem neq82 (xs ys : List Int) (w : World) : (binOp .neq 87 (.agg (vec xs).toArray) (.agg (vec ys).toArray)).run Try.prog w = .ok (.bool (!eq12 xs ys)) w := by
  obtain ⟨i, hi⟩ := info3
  rw [run_neq_struct, run_equalIn_array w 9999 _ _ und82 hi, cellsOf3, eqItems12 xs ys w _ (fun i hi => by simpa using hi)]
  rfl
end Go.Proofs
