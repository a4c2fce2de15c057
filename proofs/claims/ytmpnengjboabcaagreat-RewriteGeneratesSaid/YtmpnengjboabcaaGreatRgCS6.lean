/- Equality of tables and words; a copy by append; slices.Clone; letter; word.Reduce and cayleyref02.Reduce; Appending a readable list; slices.Concat; word.Invert, Mul and cayleyref02.Invert, Mul; word.Invert, slices.Concat, word.Mul; Maps keyed by pairs of numbers. -/
import Derived.Test.YtmpnengjboabcaaGreatRgCS4
import Derived.Test.YtmpnengjboabcaaGreatRgCS1
import Derived.WalkMore
import Derived.Test.YtmpnengjboabcaaGreatRgCS5
import Derived.DeepKeys4
import Derived.MapViews
import Derived.WideKeyArgs
namespace Go.Proofs
open Go.RowKit Go.Shelf Go.Proofs.Ct
set_option maxRecDepth 100000 in
set_option maxHeartbeats 400000 in
theorem same18_any (w : World) (va vb : Value) (A B : List (List Int)) (ha : Tab w va A) (hb : Tab w vb B) :
    Calls Tryz.prog 12 #[va, vb] w fun e w' => e = .returned (.bool (decide (A = B))) ∧ ∃ q, w' = w.drewN q := by
  obtain ⟨A0, ca, rfl, ha1, ha2, ha3⟩ := ha.open_
  obtain ⟨B0, cb, rfl, hb1, hb2, hb3⟩ := hb.open_
  have HA := Lib.hid ha3
  have HB := Lib.hid hb3
  clear ha hb ha3 hb3
  by_cases hl : A.length = B.length
  · have d1 : ((A.length : Int) != (B.length : Int)) = false := by simp; omega
    have d2 : (A.length != B.length) = false := by simp; omega
    have HL := Lib.hid hl
    clear hl
    go_enter Tryz.func12, Tryz.ntmps12
    go_wp2_with fail
    go_loopw [5] (fun i wr => ∃ k : Nat, k ≤ A.length ∧ i = .int .i64 k ∧ (∀ j, j < k → A.getD j [] = B.getD j []) ∧ ∃ q, wr = w.drewN q) (fun i _ => A.length - (intOf i).toNat)
    case atStart => exact ⟨0, Nat.zero_le _, rfl, fun j hj => absurd hj (by omega), 0, rfl⟩
    case round =>
      obtain ⟨k, hk, rfl, hz, q, rfl⟩ := hrel
      have HZ := Lib.hid hz
      clear hz
      by_cases hlt : k < A.length
      · obtain ⟨b1, o1, rfl, hc1⟩ := HA.out (by omega)
        obtain ⟨b2, o2, rfl, hc2⟩ := HB.out (by rw [← HL.out]; omega)
        obtain ⟨u1, hu1, hr1⟩ := hc1 k hlt
        obtain ⟨u2, hu2, hr2⟩ := hc2 k (by rw [← HL.out]; omega)
        obtain ⟨A3, c3, rfl, hd1, hd2, hd⟩ := hr1.open_
        obtain ⟨A4, c4, rfl, he1, he2, he⟩ := hr2.open_
        have hk0 : (0 : Int) ≤ (k : Int) := Int.natCast_nonneg _
        have hkb : (k : Int) < (B.length : Int) := by rw [← HL.out]; omega
        have hka : (k : Int) < (A.length : Int) := by omega
        have HN := Lib.hid (fun h => getD_ne (A := A) (B := B) (d := []) (k := k) h)
        generalize hxe : A.getD k [] = x at *
        generalize hye : B.getD k [] = y at *
        have HXE := Lib.hid hxe
        have HYE := Lib.hid hye
        clear hxe hye
        have HD := Lib.hid hd
        have HE := Lib.hid he
        clear hc1 hc2 hr1 hr2 hd he
        by_cases hxy : x.length = y.length
        · have d3 : ((x.length : Int) != (y.length : Int)) = false := by simp; omega
          have d4 : (x.length != y.length) = false := by simp; omega
          have HX := Lib.hid hxy
          clear hxy
          go_wp2_with fail
          go_quiet (fail)
          go_wp2_with fail
          go_loopw [6] (fun i wr => ∃ j : Nat, j ≤ x.length ∧ i = .int .i64 j ∧ (∀ t, t < j → x.getD t 0 = y.getD t 0) ∧ ∃ q, wr = w.drewN q) (fun i _ => x.length - (intOf i).toNat)
          case atStart => exact ⟨0, Nat.zero_le _, rfl, fun j hj => absurd hj (by omega), (by first | exact ⟨_, rfl⟩ | exact ex_drewN)⟩
          case round =>
            obtain ⟨j, hj, rfl, hzj, qj, rfl⟩ := hrel
            have HZJ := Lib.hid hzj
            clear hzj
            by_cases hjl : j < x.length
            · obtain ⟨b3, o3, rfl, hx⟩ := HD.out (by omega)
              obtain ⟨b4, o4, rfl, hy⟩ := HE.out (by rw [← HX.out]; omega)
              have hx1 := hx j hjl
              have hy1 := hy j (by rw [← HX.out]; omega)
              have hj0 : (0 : Int) ≤ (j : Int) := Int.natCast_nonneg _
              have hjb : (j : Int) < (y.length : Int) := by rw [← HX.out]; omega
              have hja : (j : Int) < (x.length : Int) := by omega
              have HM := Lib.hid (fun h => getD_ne (A := x) (B := y) (d := 0) (k := j) h)
              clear hx hy
              generalize hse : x.getD j 0 = s at *
              generalize hte : y.getD j 0 = t at *
              have HSE := Lib.hid hse
              have HTE := Lib.hid hte
              clear hse hte
              by_cases hst : s = t
              · have d5 : (s != t) = false := by simpa using hst
                have HS := Lib.hid hst
                clear hst
                go_wp2_with fail
                go_quiet (fail)
                go_wp2_with fail
                go_roundw
                case rel => exact ⟨j + 1, by omega, by go_num, all_succ HZJ.out (by rw [HSE.out, HTE.out]; exact HS.out), (by first | exact ⟨_, rfl⟩ | exact ex_drewN)⟩
                case measure => simp [intOf]; omega
              · have d5 : (s != t) = true := by simpa using hst
                have HS := Lib.hid hst
                clear hst
                go_wp2_with fail
                go_quiet (fail)
                go_wp2_with fail
                go_ret
                exact ⟨ret_bool (by simpa using HN.out (HM.out HS.out)), (by first | exact ⟨_, rfl⟩ | exact ex_drewN)⟩
            · obtain rfl : j = x.length := by omega
              go_wp2_with fail
              go_roundw
              case rel => exact ⟨k + 1, by omega, by go_num, all_succ HZ.out (by rw [HXE.out, HYE.out]; exact getD_ext HX.out HZJ.out), _, rfl⟩
              case measure => simp [intOf]; omega
        · have d3 : ((x.length : Int) != (y.length : Int)) = true := by simp; omega
          have d4 : (x.length != y.length) = true := by simp; omega
          have HX := Lib.hid hxy
          clear hxy
          go_wp2_with fail
          go_quiet (fail)
          go_wp2_with fail
          go_ret
          exact ⟨ret_bool (by simpa using HN.out (fun e => HX.out (by rw [e]))), (by first | exact ⟨_, rfl⟩ | exact ex_drewN)⟩
      · obtain rfl : k = A.length := by omega
        go_wp2_with fail
        go_ret
        exact ⟨ret_bool (by simpa using getD_ext HL.out HZ.out), _, rfl⟩
  · have d1 : ((A.length : Int) != (B.length : Int)) = true := by simp; omega
    have d2 : (A.length != B.length) = true := by simp; omega
    have HL := Lib.hid hl
    clear hl
    go_enter Tryz.func12, Tryz.ntmps12
    go_wp2_with fail
    go_ret
    exact ⟨ret_bool (by simpa using fun e => HL.out (by rw [e])), 0, rfl⟩
set_option maxRecDepth 100000 in
set_option maxHeartbeats 400000 in
theorem equal142_any (w : World) (va vb : Value) (x y : List Int) (ha : IntsAt w va x) (hb : IntsAt w vb y) :
    Calls Tryz.prog 99 #[va, vb] w fun e w' => e = .returned (.bool (decide (x = y))) ∧ ∃ q, w' = w.drewN q := by
  obtain ⟨A3, c3, rfl, hd1, hd2, hd⟩ := ha.open_
  obtain ⟨A4, c4, rfl, he1, he2, he⟩ := hb.open_
  have HD := Lib.hid hd
  have HE := Lib.hid he
  clear ha hb hd he
  have HN := Lib.hid (fun (h : x.length ≠ y.length) (e : x = y) => h (by rw [e]))
  by_cases hxy : x.length = y.length
  · have d3 : ((x.length : Int) != (y.length : Int)) = false := by simp; omega
    have d4 : (x.length != y.length) = false := by simp; omega
    have HX := Lib.hid hxy
    clear hxy
    go_enter Tryz.func99, Tryz.ntmps99
    go_wp2_with fail
    go_loopw [5, 13] (fun _ i wr => ∃ j : Nat, j ≤ x.length ∧ i = .int .i64 j ∧ (∀ t, t < j → x.getD t 0 = y.getD t 0) ∧ ∃ q, wr = w.drewN q) (fun _ i _ => x.length - (intOf i).toNat)
    case atStart => exact ⟨0, Nat.zero_le _, rfl, fun j hj => absurd hj (by omega), 0, rfl⟩
    case round =>
      obtain ⟨j, hj, rfl, hzj, qj, rfl⟩ := hrel
      have HZJ := Lib.hid hzj
      clear hzj
      by_cases hjl : j < x.length
      · obtain ⟨b3, o3, rfl, hx⟩ := HD.out (by omega)
        obtain ⟨b4, o4, rfl, hy⟩ := HE.out (by rw [← HX.out]; omega)
        have hx1 := hx j hjl
        have hy1 := hy j (by rw [← HX.out]; omega)
        have hj0 : (0 : Int) ≤ (j : Int) := Int.natCast_nonneg _
        have hjb : (j : Int) < (y.length : Int) := by rw [← HX.out]; omega
        have hja : (j : Int) < (x.length : Int) := by omega
        have HM := Lib.hid (fun h => getD_ne (A := x) (B := y) (d := 0) (k := j) h)
        clear hx hy
        generalize hse : x.getD j 0 = s at *
        generalize hte : y.getD j 0 = t at *
        have HSE := Lib.hid hse
        have HTE := Lib.hid hte
        clear hse hte
        by_cases hst : s = t
        · have d5 : (s != t) = false := by simpa using hst
          have HS := Lib.hid hst
          clear hst
          go_wp2_with fail
          go_quiet (fail)
          go_wp2_with fail
          go_roundw
          case rel => exact ⟨j + 1, by omega, by go_num, all_succ HZJ.out (by rw [HSE.out, HTE.out]; exact HS.out), (by first | exact ⟨_, rfl⟩ | exact ex_drewN)⟩
          case measure => simp [intOf]; omega
        · have d5 : (s != t) = true := by simpa using hst
          have HS := Lib.hid hst
          clear hst
          go_wp2_with fail
          go_quiet (fail)
          go_wp2_with fail
          go_ret
          exact ⟨ret_bool (by simpa using HM.out HS.out), (by first | exact ⟨_, rfl⟩ | exact ex_drewN)⟩
      · obtain rfl : j = x.length := by omega
        go_wp2_with fail
        go_ret
        exact ⟨ret_bool (by simpa using getD_ext HX.out HZJ.out), (by first | exact ⟨_, rfl⟩ | exact ex_drewN)⟩
  · have d3 : ((x.length : Int) != (y.length : Int)) = true := by simp; omega
    have d4 : (x.length != y.length) = true := by simp; omega
    have HX := Lib.hid hxy
    clear hxy
    go_enter Tryz.func99, Tryz.ntmps99
    go_wp2_with fail
    go_ret
    exact ⟨ret_bool (by simpa using HN.out HX.out), 0, rfl⟩
set_option maxRecDepth 100000 in
set_option maxHeartbeats 400000 in
theorem equal143_any (w : World) (va vb : Value) (x y : List Int) (ha : IntsAt w va x) (hb : IntsAt w vb y) :
    Calls Tryz.prog 83 #[va, vb] w fun e w' => e = .returned (.bool (decide (x = y))) ∧ ∃ q, w' = w.drewN q := by
  obtain ⟨A3, c3, rfl, hd1, hd2, hd⟩ := ha.open_
  obtain ⟨A4, c4, rfl, he1, he2, he⟩ := hb.open_
  have HD := Lib.hid hd
  have HE := Lib.hid he
  clear ha hb hd he
  have HN := Lib.hid (fun (h : x.length ≠ y.length) (e : x = y) => h (by rw [e]))
  by_cases hxy : x.length = y.length
  · have d3 : ((x.length : Int) != (y.length : Int)) = false := by simp; omega
    have d4 : (x.length != y.length) = false := by simp; omega
    have HX := Lib.hid hxy
    clear hxy
    go_enter Tryz.func83, Tryz.ntmps83
    go_wp2_with fail
    go_loopw [5, 13] (fun _ i wr => ∃ j : Nat, j ≤ x.length ∧ i = .int .i64 j ∧ (∀ t, t < j → x.getD t 0 = y.getD t 0) ∧ ∃ q, wr = w.drewN q) (fun _ i _ => x.length - (intOf i).toNat)
    case atStart => exact ⟨0, Nat.zero_le _, rfl, fun j hj => absurd hj (by omega), 0, rfl⟩
    case round =>
      obtain ⟨j, hj, rfl, hzj, qj, rfl⟩ := hrel
      have HZJ := Lib.hid hzj
      clear hzj
      by_cases hjl : j < x.length
      · obtain ⟨b3, o3, rfl, hx⟩ := HD.out (by omega)
        obtain ⟨b4, o4, rfl, hy⟩ := HE.out (by rw [← HX.out]; omega)
        have hx1 := hx j hjl
        have hy1 := hy j (by rw [← HX.out]; omega)
        have hj0 : (0 : Int) ≤ (j : Int) := Int.natCast_nonneg _
        have hjb : (j : Int) < (y.length : Int) := by rw [← HX.out]; omega
        have hja : (j : Int) < (x.length : Int) := by omega
        have HM := Lib.hid (fun h => getD_ne (A := x) (B := y) (d := 0) (k := j) h)
        clear hx hy
        generalize hse : x.getD j 0 = s at *
        generalize hte : y.getD j 0 = t at *
        have HSE := Lib.hid hse
        have HTE := Lib.hid hte
        clear hse hte
        by_cases hst : s = t
        · have d5 : (s != t) = false := by simpa using hst
          have HS := Lib.hid hst
          clear hst
          go_wp2_with fail
          go_quiet (fail)
          go_wp2_with fail
          go_roundw
          case rel => exact ⟨j + 1, by omega, by go_num, all_succ HZJ.out (by rw [HSE.out, HTE.out]; exact HS.out), (by first | exact ⟨_, rfl⟩ | exact ex_drewN)⟩
          case measure => simp [intOf]; omega
        · have d5 : (s != t) = true := by simpa using hst
          have HS := Lib.hid hst
          clear hst
          go_wp2_with fail
          go_quiet (fail)
          go_wp2_with fail
          go_ret
          exact ⟨ret_bool (by simpa using HM.out HS.out), (by first | exact ⟨_, rfl⟩ | exact ex_drewN)⟩
      · obtain rfl : j = x.length := by omega
        go_wp2_with fail
        go_ret
        exact ⟨ret_bool (by simpa using getD_ext HX.out HZJ.out), (by first | exact ⟨_, rfl⟩ | exact ex_drewN)⟩
  · have d3 : ((x.length : Int) != (y.length : Int)) = true := by simp; omega
    have d4 : (x.length != y.length) = true := by simp; omega
    have HX := Lib.hid hxy
    clear hxy
    go_enter Tryz.func83, Tryz.ntmps83
    go_wp2_with fail
    go_ret
    exact ⟨ret_bool (by simpa using HN.out HX.out), 0, rfl⟩
theorem eg142 : ∀ args w, (callFunc 99 args).run Tryz.prog w = .ok (.enter 99 args) w := enters_of Tryz.func99 (by kernel_rfl) rfl
set_option maxRecDepth 100000 in
set_option maxHeartbeats 400000 in
theorem equalF141_any (w : World) (va vb : Value) (A B : List (List Int)) (ha : Tab w va A) (hb : Tab w vb B) :
    Calls Tryz.prog 98 #[va, vb, .func (.func 99) #[] #[]] w fun e w' => e = .returned (.bool (decide (A = B))) ∧ ∃ q, w' = w.drewN q := by
  have HEG := eg142
  obtain ⟨A0, ca, rfl, ha1, ha2, ha3⟩ := ha.open_
  obtain ⟨B0, cb, rfl, hb1, hb2, hb3⟩ := hb.open_
  have HA := Lib.hid ha3
  have HB := Lib.hid hb3
  clear ha hb ha3 hb3
  by_cases hl : A.length = B.length
  · have d1 : ((A.length : Int) != (B.length : Int)) = false := by simp; omega
    have d2 : (A.length != B.length) = false := by simp; omega
    have HL := Lib.hid hl
    clear hl
    go_enter Tryz.func98, Tryz.ntmps98
    go_wp2_with fail
    go_loopw [17] (fun i wr => ∃ k : Nat, k ≤ A.length ∧ i = .int .i64 k ∧ (∀ j, j < k → A.getD j [] = B.getD j []) ∧ ∃ q, wr = w.drewN q) (fun i _ => A.length - (intOf i).toNat)
    case atStart => exact ⟨0, Nat.zero_le _, rfl, fun j hj => absurd hj (by omega), 0, rfl⟩
    case round =>
      obtain ⟨k, hk, rfl, hz, q, rfl⟩ := hrel
      have HZ := Lib.hid hz
      clear hz
      by_cases hlt : k < A.length
      · obtain ⟨b1, o1, rfl, hc1⟩ := HA.out (by omega)
        obtain ⟨b2, o2, rfl, hc2⟩ := HB.out (by rw [← HL.out]; omega)
        obtain ⟨u1, hu1, hr1⟩ := hc1 k hlt
        obtain ⟨u2, hu2, hr2⟩ := hc2 k (by rw [← HL.out]; omega)
        have hk0 : (0 : Int) ≤ (k : Int) := Int.natCast_nonneg _
        have hkb : (k : Int) < (B.length : Int) := by rw [← HL.out]; omega
        have hka : (k : Int) < (A.length : Int) := by omega
        have HN := Lib.hid (fun h => getD_ne (A := A) (B := B) (d := []) (k := k) h)
        have hcall : Calls Tryz.prog 99 #[u1, u2] (w.drewN q) fun e w' => e = .returned (.bool (decide (A.getD k [] = B.getD k []))) ∧ ∃ q', w' = (w.drewN q).drewN q' := equal142_any (w.drewN q) u1 u2 _ _ (hr1.drewN q) (hr2.drewN q)
        have HXY : Hid (A.getD k [] = B.getD k [] → ∀ j, j < k + 1 → A.getD j [] = B.getD j []) := Lib.hid fun h => all_succ HZ.out h
        clear hc1 hc2 hr1 hr2
        by_cases hxy : A.getD k [] = B.getD k []
        · rw [decide_eq_true hxy] at hcall
          have HC := Lib.hid hcall
          have HS := Lib.hid (HXY.out hxy)
          clear hcall hxy
          go_wp2_with (go_at_fn 99; (refine HC.out.mono ?_); rintro e w' ⟨rfl, q', rfl⟩)
          go_roundw
          case rel => exact ⟨k + 1, by omega, by go_num, HS.out, (by first | exact ⟨_, rfl⟩ | exact ex_drewN)⟩
          case measure => simp [intOf]; omega
        · rw [decide_eq_false hxy] at hcall
          have HC := Lib.hid hcall
          have HS := Lib.hid (HN.out hxy)
          clear hcall hxy
          go_wp2_with (go_at_fn 99; (refine HC.out.mono ?_); rintro e w' ⟨rfl, q', rfl⟩)
          go_ret
          exact ⟨ret_bool (by simpa using HS.out), (by first | exact ⟨_, rfl⟩ | exact ex_drewN)⟩
      · obtain rfl : k = A.length := by omega
        go_wp2_with fail
        go_ret
        exact ⟨ret_bool (by simpa using getD_ext HL.out HZ.out), _, rfl⟩
  · have d1 : ((A.length : Int) != (B.length : Int)) = true := by simp; omega
    have d2 : (A.length != B.length) = true := by simp; omega
    have HL := Lib.hid hl
    clear hl
    go_enter Tryz.func98, Tryz.ntmps98
    go_wp2_with fail
    go_ret
    exact ⟨ret_bool (by simpa using fun e => HL.out (by rw [e])), 0, rfl⟩
theorem same109_any (w : World) (va vb : Value) (A B : List (List Int)) (ha : Tab w va A) (hb : Tab w vb B) :
    Calls Tryz.prog 81 #[va, vb] w fun e w' => e = .returned (.bool (decide (A = B))) ∧ ∃ q, w' = w.drewN q := by
  have HC := Lib.hid (equalF141_any w va vb A B ha hb)
  clear ha hb
  generalize decide (A = B) = r at *
  go_enter Tryz.func81, Tryz.ntmps81
  go_wp2_with (go_at_call 98; (refine HC.out.mono ?_); rintro e w' ⟨rfl, q, rfl⟩)
  go_ret
  exact ⟨rfl, _, rfl⟩
def ltrI (c : Int) : Int := if c % 2 = 1 then -(c / 2 + 1) else c / 2 + 1
theorem letter_ltrI (c : Nat) : letter c = ltrI c := by
  unfold letter ltrI
  by_cases h : c % 2 = 1
  · rw [if_pos h, if_pos (by omega)]; omega
  · rw [if_neg h, if_neg (by omega)]; omega
set_option maxRecDepth 100000 in
theorem letter110_int (w : World) (c : Int) (h0 : 0 ≤ c) (h1 : c ≤ 1000000) : Calls Tryz.prog 82 #[.int .i64 c] w fun e w' => e = .returned (.int .i64 (ltrI c)) ∧ w = w' := by
  by_cases h : c % 2 = 1
  · have d1 : (c % 2 == 1) = true := beq_iff_eq.2 h
    have HL : Hid (ltrI c = -(c / 2 + 1)) := Lib.hid (if_pos h)
    clear h
    go_enter Tryz.func82, Tryz.ntmps82
    go_wp2_with fail
    go_ret
    exact ⟨by rw [HL.out]; rfl, rfl⟩
  · have d1 : (c % 2 == 1) = false := beq_eq_false_iff_ne.2 h
    have HL : Hid (ltrI c = c / 2 + 1) := Lib.hid (if_neg h)
    clear h
    go_enter Tryz.func82, Tryz.ntmps82
    go_wp2_with fail
    go_ret
    exact ⟨by rw [HL.out]; rfl, rfl⟩
theorem letter110_any (w : World) (c : Nat) (hc : c ≤ 1000000) : Calls Tryz.prog 82 #[.int .i64 (c : Int)] w fun e w' => e = .returned (.int .i64 (letter c)) ∧ w = w' := by
  rw [letter_ltrI]
  exact letter110_int w c (by omega) (by omega)
theorem src_ints {t : TypeId} (ht : Tryz.prog.underlying t = some (.slice 3)) {w : World} {v : Value} {y : List Int} (h : IntsAt w v y) : Src Tryz.prog 1 t v y.length (ints y) w := by
  obtain ⟨⟨A, n, cap, rfl, hn, hc, hm, hr⟩, -⟩ := h
  have hl : n = y.length := by simpa [ints] using hn
  subst hl
  rcases Nat.eq_zero_or_pos y.length with h0 | h0
  · obtain rfl : y = [] := List.length_eq_zero_iff.1 h0
    cases A with
    | none => exact Src.ofNil w ht cap
    | some a => exact Src.ofSlice w ht a 0 cap [] rfl (fun j u hu => by simp at hu) (fun u hu => by cases hu)
  · obtain ⟨b, off, rfl, hrow⟩ := hr h0
    exact Src.ofSlice w ht _ _ cap (ints y) (by simp [ints]) (fun j u hu => by rw [Addr.add_lit]; exact hrow j u hu) (fun u hu => by obtain ⟨x, -, rfl⟩ := List.mem_map.1 hu; rfl)
theorem run_copy {t : TypeId} (ht : Tryz.prog.underlying t = some (.slice 3)) {w : World} {v : Value} {y : List Int} (h : IntsAt w v y) (hl : y.length ≤ 1000000) :
    ∃ A cap w', (Builtin.append_ #[t, t] t #[.slice (some ⟨w.heap.size, 0, none⟩) 0 0, v]).run Tryz.prog (w.alloc (.cells #[] 3)) = .ok (.slice A y.length cap) w' ∧
      Below w.heap.size w w' ∧ OwnI w.heap.size w' (.slice A y.length cap) y := by
  obtain ⟨i, hi, hz, hs, hby⟩ := info3p
  have hal : Below w.heap.size w (w.alloc (.cells #[] 3)) := (Below.refl _ _).alloc (Nat.le_refl _) _
  have hnew := heap_alloc_new w (.cells #[] 3)
  have hsz : (w.alloc (.cells #[] 3)).heap.size = w.heap.size + 1 := by simp
  have hsrc := src_ints ht (h.below hal)
  generalize w.alloc (.cells #[] 3) = W at *
  rcases Nat.eq_zero_or_pos y.length with h0 | h0
  · obtain rfl : y = [] := List.length_eq_zero_iff.1 h0
    have := run_append_room_src (P := Tryz.prog) W t t t 3 i ht hi w.heap.size 0 0 0 v 0 [] (by rw [hs]; exact hsrc) (Nat.le_refl _) (fun j hj => absurd hj (by simp)) (fun j hj => absurd hj (by simp))
    exact ⟨_, 0, W, this, hal, rfl, .inr ⟨w.heap.size, 0, #[], rfl, Nat.le_refl _, hnew, Nat.le_refl _, by simp, rfl, rfl⟩⟩
  · have hold : (Builtin.firstCells i.size 0 (.slice (some ⟨w.heap.size, 0, none⟩) 0 0)).run Tryz.prog W.drew = .ok ([] : List Value).toArray W.drew := by
      rw [hs]
      exact run_firstCells_some W.drew 1 0 ⟨w.heap.size, 0, none⟩ 0 0 [] rfl (fun j u hu => by simp at hu)
    have hg := run_append_grow_src (P := Tryz.prog) W t t t 3 i (.int .i64 0) ht hi hz (some ⟨w.heap.size, 0, none⟩) 0 0 [] hold v y.length (ints y) (by rw [hs]; exact hsrc) (by omega) (by omega) (growslice_fits (by omega) (by rw [hby]; omega))
    simp only [Nat.zero_add, List.nil_append] at hg
    have hcm := grownCap_le_maxLen W y.length 0 3 (by unfold maxLen; omega)
    have hcg := grownCap_ge W y.length 0 3
    refine ⟨_, _, _, hg, hal.trans ⟨rfl, rfl, rfl, by simp, fun k hk => (Below.heap_alloc W.drew _ k (by show k < W.heap.size; omega))⟩, by simp [ints], .inr ⟨W.heap.size, _, _, rfl, by omega, heap_alloc_new W.drew _, hcg, hcm, ?_, ?_⟩⟩
    · simp [ints, size_zeroCells, Value.cells]
      omega
    · simp [ints]
theorem eqnil_none (w : World) (n c : Nat) : (binOp .eql 39 (.slice none n c) (.slice none 0 0)).run Tryz.prog w = .ok (.bool true) w := by kernel_rfl
theorem eqnil_some (w : World) (a : Addr) (n c : Nat) : (binOp .eql 39 (.slice (some a) n c) (.slice none 0 0)).run Tryz.prog w = .ok (.bool false) w := by kernel_rfl
set_option maxRecDepth 100000 in
theorem clone71_any (w : World) (v : Value) (xs : List Int) (h : IntsAt w v xs) (hl : xs.length ≤ 1000000) :
    Calls Tryz.prog 27 #[v] w fun e w' => ∃ A c, e = .returned (.slice A xs.length c) ∧ OwnI w.heap.size w' (.slice A xs.length c) xs ∧ Below w.heap.size w w' := by
  obtain ⟨A0, c0, w', hr, hb, ho⟩ := run_copy Tryz.underlying39 h hl
  have HR := Lib.hid hr
  have HB := Lib.hid hb
  have HO := Lib.hid ho
  obtain ⟨A, cap, rfl, hcap, hmax, hc⟩ := h.open_
  cases A with
  | none =>
    have h0 : xs = [] := by
      rcases Nat.eq_zero_or_pos xs.length with h0 | h0
      · exact List.length_eq_zero_iff.1 h0
      · obtain ⟨b, off, hx, -⟩ := hc h0
        cases hx
    clear hr hb ho hc h HR HB HO
    subst h0
    have hq := eqnil_none w
    go_enter Tryz.func27, Tryz.ntmps27
    go_wp2_with fail
    go_ret
    exact ⟨none, 0, rfl, World.ownsRow_nil _ _ _ _, Below.refl _ _⟩
  | some a =>
    clear hr hb ho hc h
    have hq := eqnil_some w
    go_enter Tryz.func27, Tryz.ntmps27
    go_wp2_with ((with_reducible refine wpList_sel 7 ?_); refine wpList_val rfl (r_app (.tmp 5) (.tmp 6) 39 rfl rfl rfl HR.out) ?_)
    go_ret
    exact ⟨_, _, rfl, HO.out, HB.out⟩
end Go.Proofs
namespace Go.Proofs
open Go.RowKit Go.Shelf Go.Proofs.Ct
def Mild (x : Int) : Prop := -4611686018427387903 ≤ x ∧ x ≤ 4611686018427387903
theorem Mild.fits {w : List Int} (h : ∀ x ∈ w, Mild x) : Fits w := fun x hx => by
  have := h x hx
  unfold Mild at this
  omega
theorem Mild.at_ {w : List Int} (h : ∀ x ∈ w, Mild x) (k : Nat) : Mild (w.getD k 0) := by
  rw [List.getD_eq_getElem?_getD]
  rcases Nat.lt_or_ge k w.length with hk | hk
  · rw [List.getElem?_eq_getElem hk]; exact h _ (List.getElem_mem hk)
  · rw [List.getElem?_eq_none hk]; exact ⟨by simp, by simp⟩
set_option maxRecDepth 100000 in
theorem opp134_any (w : World) (x y : Int) (hx : Mild x) (hy : Mild y) : Calls Tryz.prog 84 #[.int .i64 x, .int .i64 y] w fun e w' => e = .returned (.bool (opp x y)) ∧ w = w' := by
  obtain ⟨h1, h2⟩ := hx
  obtain ⟨h3, h4⟩ := hy
  have HO : Hid (opp x y = (decide (x ≠ 0) && decide (y = -x))) := Lib.hid rfl
  by_cases hx0 : x = 0
  · have d1 : (x != 0) = false := by simpa using hx0
    have HR : Hid (opp x y = false) := Lib.hid (by rw [HO.out]; simp [hx0])
    clear hx0
    go_enter Tryz.func84, Tryz.ntmps84
    go_wp2_with fail
    go_ret
    exact ⟨ret_bool HR.out.symm, rfl⟩
  · have d1 : (x != 0) = true := by simpa using hx0
    by_cases hxy : x = y
    · have d2 : (x != y) = false := by simpa using hxy
      have HR : Hid (opp x y = false) := Lib.hid (by rw [HO.out]; simp; omega)
      clear hx0 hxy
      go_enter Tryz.func84, Tryz.ntmps84
      go_wp2_with fail
      go_ret
      exact ⟨ret_bool HR.out.symm, rfl⟩
    · have d2 : (x != y) = true := by simpa using hxy
      by_cases hs : x + y = 0
      · have d3 : (x + y == 0) = true := beq_iff_eq.2 hs
        have HR : Hid (opp x y = true) := Lib.hid (by rw [HO.out]; simp; omega)
        clear hx0 hxy hs
        go_enter Tryz.func84, Tryz.ntmps84
        go_wp2_with fail
        go_ret
        exact ⟨ret_bool HR.out.symm, rfl⟩
      · have d3 : (x + y == 0) = false := beq_eq_false_iff_ne.2 hs
        have HR : Hid (opp x y = false) := Lib.hid (by rw [HO.out]; simp; omega)
        clear hx0 hxy hs
        go_enter Tryz.func84, Tryz.ntmps84
        go_wp2_with fail
        go_ret
        exact ⟨ret_bool HR.out.symm, rfl⟩
theorem owns_take {w : World} {base : Nat} {A : Option Addr} {n c : Nat} {xs : List Int} (h : w.ownsRow base 3 1 (.slice A n c) n (ints xs)) {k : Nat} (hk : k ≤ n) : w.ownsRow base 3 1 (.slice A k c) k (ints (xs.take k)) := by
  obtain ⟨hl, h2⟩ := h
  have hxl : xs.length = n := by simpa [ints] using hl
  refine ⟨by simp [ints]; omega, ?_⟩
  rcases h2 with ⟨e, h0⟩ | ⟨g, cap, cur, e, hb, hg, hnc, hcm, hcs, ht⟩
  · cases e
    obtain rfl : k = 0 := by omega
    exact .inl ⟨rfl, rfl⟩
  · cases e
    refine .inr ⟨g, c, cur, rfl, hb, hg, by omega, hcm, hcs, ?_⟩
    have : ints (xs.take k) = (ints xs).take k := by simp [ints, List.map_take]
    rw [this, ← ht, List.take_take]
    congr 1
    omega
def RedPost (x : List Int) (w : World) (e : Ending) (w' : World) : Prop := ∃ A c, e = .returned (.slice A (red x).length c) ∧ OwnI w.heap.size w' (.slice A (red x).length c) (red x) ∧ Below w.heap.size w w'
set_option maxRecDepth 100000 in
set_option maxHeartbeats 1000000 in
theorem reduce99_any (w : World) (v : Value) (x : List Int) (h : IntsAt w v x) (hm : ∀ z ∈ x, Mild z) (hl : x.length ≤ 100000) : Calls Tryz.prog 53 #[v] w (RedPost x w) := by
  obtain ⟨A0, c0, rfl, hc1, hc2, hc⟩ := h.open_
  have HC := Lib.hid hc
  have HM := Lib.hid hm
  clear hc h hm
  have hx0 : (0 : Int) ≤ (x.length : Int) := Int.natCast_nonneg _
  go_enter Tryz.func53, Tryz.ntmps53
  go_wp2_with fail
  go_step3
  go_wp2_with fail
  go_step3
  go_wp2_with fail
  go_loopw [3, 9] (fun so i wr => ∃ k n : Nat, i = .int .i64 k ∧ k ≤ x.length ∧ n ≤ k ∧ Hid (n = (redTo x k).length) ∧ ∃ A c, so = .slice A n c ∧ Hid (OwnI w.heap.size wr so (redTo x k) ∧ Below w.heap.size w wr)) (fun _ i _ => x.length - (intOf i).toNat)
  case atStart => exact ⟨0, 0, rfl, by omega, by omega, Lib.hid rfl, none, 0, rfl, Lib.hid ⟨World.ownsRow_nil _ _ _ _, Below.refl _ _⟩⟩
  case round =>
    obtain ⟨k, n, rfl, hk, hnk, HN, A, c, rfl, HS⟩ := hrel
    have hk0 : (0 : Int) ≤ (k : Int) := Int.natCast_nonneg _
    have hn0 : (0 : Int) ≤ (n : Int) := Int.natCast_nonneg _
    by_cases hlt : k < x.length
    · have hlt' : (k : Int) < (x.length : Int) := by omega
      obtain ⟨b, o, rfl, hcc⟩ := HC.out (by omega)
      have hck := hcc k hlt
      have hck' := (HS.out.2.cell (p := ⟨b, o + k, none⟩) (World.block_lt_of_cell? w _ hck)).trans hck
      have hmk := Mild.at_ HM.out k
      have HSTEP : Hid (redTo x (k + 1) = push (redTo x k) (x.getD k 0)) := Lib.hid rfl
      have hmst : ∀ z ∈ redTo x k, Mild z := fun z hz => HM.out z (redTo_mem hk hz)
      clear hcc hck
      generalize x.getD k 0 = z at *
      generalize redTo x k = st at *
      have hmk' : -4611686018427387903 ≤ z ∧ z ≤ 4611686018427387903 := hmk
      obtain ⟨hz1, hz2⟩ := hmk'
      have hpush := run_push (ty := 39) Tryz.underlying39 info3p rfl (by omega) wr w.heap.size (.slice A n c) n (ints st) (by have := HS.out.1; unfold OwnI at this; rw [← HN.out] at this; exact this) (.int .i64 z) rfl (by omega) HS.out.2.size
      by_cases hn : n = 0
      · subst hn
        have hst : st = [] := List.length_eq_zero_iff.1 HN.out.symm
        obtain ⟨A', c', w', hr, ho, hg, -⟩ := hpush
        have hsn : redTo x (k + 1) = st ++ [z] := by rw [HSTEP.out]; unfold push; rw [hst]; rfl
        have HR := Lib.hid hr
        have HS2 : Hid (OwnI w.heap.size w' (.slice A' (0 + 1) c') (redTo x (k + 1)) ∧ Below w.heap.size w w') := Lib.hid ⟨by
          unfold OwnI
          rw [hsn, List.length_append, ← HN.out, ints_app]
          exact ho, HS.out.2.grown hg HS.out.2.size (fun r hr => (owns_block HS.out.1 r hr).1)⟩
        have HN2 : Hid (0 + 1 = (redTo x (k + 1)).length) := Lib.hid (by rw [hsn, List.length_append, ← HN.out]; rfl)
        clear hr ho hg hsn hst hmst hn0
        go_wp2_with ((with_reducible refine wpList_sel 33 ?_); refine wpList_val rfl (r_app (.tmp 30) (.tmp 32) 39 rfl rfl rfl HR.out) ?_)
        go_roundw
        case rel => exact ⟨k + 1, 0 + 1, by go_num, by omega, by omega, HN2, _, _, rfl, HS2⟩
        case measure => simp [intOf]; omega
      · have d1 : decide ((n : Int) > 0) = true := by simp; omega
        have d2 : decide (0 < (n : Int)) = true := by simp; omega
        obtain ⟨m, rfl⟩ : ∃ m, n = m + 1 := ⟨n - 1, by omega⟩
        have hoI := OwnI.ints HS.out.1 (Mild.fits hmst)
        obtain ⟨A5, c5, e5, ht1, ht2, ht3⟩ := hoI.open_
        obtain ⟨rfl, -, rfl⟩ := Value.slice.inj e5
        obtain ⟨b5, o5, rfl, hoc⟩ := ht3 (by have := HN.out; omega)
        have hcm := hoc m (by have := HN.out; omega)
        have hcap : m ≤ c := by have := HN.out; omega
        have hcapI : (m : Int) ≤ (c : Int) := by omega
        have hmy := Mild.at_ hmst m
        have HP : Hid (push st z = if opp (st.getD m 0) z then st.take m else st ++ [z]) := Lib.hid (by
          unfold push
          rw [← HN.out, decide_eq_true (by omega : 0 < m + 1)]
          simp)
        clear hoI e5 ht3 hoc
        generalize st.getD m 0 = y at *
        have hmy' : -4611686018427387903 ≤ y ∧ y ≤ 4611686018427387903 := hmy
        obtain ⟨hy1, hy2⟩ := hmy'
        have hm0 : (0 : Int) ≤ (m : Int) := Int.natCast_nonneg _
        cases hop : opp y z with
        | true =>
          have hsn : redTo x (k + 1) = st.take m := by rw [HSTEP.out, HP.out, hop]; rfl
          have HS2 : Hid (OwnI w.heap.size wr (.slice (some ⟨b5, o5, none⟩) m c) (redTo x (k + 1)) ∧ Below w.heap.size w wr) := Lib.hid ⟨by
            have h1 := HS.out.1
            unfold OwnI at h1 ⊢
            rw [← HN.out] at h1
            have h2 := owns_take h1 (Nat.le_succ m)
            have h3 : (st.take m).length = m := by rw [List.length_take, ← HN.out]; omega
            rw [hsn, h3]
            exact h2, HS.out.2⟩
          have HN2 : Hid (m = (redTo x (k + 1)).length) := Lib.hid (by rw [hsn, List.length_take, ← HN.out]; omega)
          have HCALL := Lib.hid (opp134_any wr y z hmy hmk)
          rw [hop] at HCALL
          clear hsn hmst hop hpush hmy hmk
          go_wp2_with (go_at_call 84; (refine HCALL.out.mono ?_); rintro e w' ⟨rfl, rfl⟩)
          go_roundw
          case rel => exact ⟨k + 1, m, by go_num, by omega, by omega, HN2, _, _, rfl, HS2⟩
          case measure => simp [intOf]; omega
        | false =>
          obtain ⟨A', c', w', hr, ho, hg, -⟩ := hpush
          have hsn : redTo x (k + 1) = st ++ [z] := by rw [HSTEP.out, HP.out, hop]; rfl
          have HR := Lib.hid hr
          have HS2 : Hid (OwnI w.heap.size w' (.slice A' (m + 1 + 1) c') (redTo x (k + 1)) ∧ Below w.heap.size w w') := Lib.hid ⟨by
            unfold OwnI
            rw [hsn, List.length_append, ← HN.out, ints_app]
            exact ho, HS.out.2.grown hg HS.out.2.size (fun r hr => (owns_block HS.out.1 r hr).1)⟩
          have HN2 : Hid (m + 1 + 1 = (redTo x (k + 1)).length) := Lib.hid (by rw [hsn, List.length_append, ← HN.out]; rfl)
          have HCALL := Lib.hid (opp134_any wr y z hmy hmk)
          rw [hop] at HCALL
          clear hr ho hg hsn hmst hop hmy hmk
          go_wp2_with (first
            | (go_at_call 84; (refine HCALL.out.mono ?_); rintro e w' ⟨rfl, rfl⟩)
            | ((with_reducible refine wpList_sel 33 ?_); refine wpList_val rfl (r_app (.tmp 30) (.tmp 32) 39 rfl rfl rfl HR.out) ?_))
          go_roundw
          case rel => exact ⟨k + 1, m + 1 + 1, by go_num, by omega, by omega, HN2, _, _, rfl, HS2⟩
          case measure => simp [intOf]; omega
    · obtain rfl : k = x.length := by omega
      have HZ : Hid (redTo x x.length = red x) := Lib.hid rfl
      rw [HZ.out] at HN HS
      go_wp2_with fail
      rw [Exit.noGoto_ret]
      go_ret
      exact ⟨A, c, by rw [← HN.out]; rfl, by rw [← HN.out]; exact HS.out.1, HS.out.2⟩
end Go.Proofs
namespace Go.Proofs
open Go.RowKit Go.Shelf Go.Proofs.Ct
theorem run_append_nil2 {P : Program} (w : World) (base : Nat) (t ty e : TypeId) (i : TypeInfo) (ht : P.underlying t = some (.slice e)) (hi : P.info? e = some i) (c : Nat)
    (v : Value) (n : Nat) (xs : List Value) (hown : w.ownsRow base e 1 v n xs) : (Builtin.append_ #[t, t] ty #[v, .slice none 0 c]).run P w = .ok v w := by
  rcases hown.2 with ⟨rfl, rfl⟩ | ⟨g, cap, cur, rfl, _, _, hnc, _⟩
  · simp [Builtin.append_, run_underlying ht, sizeOf, typeInfo, hi, Builtin.lenOf, Builtin.firstCells]
  · simp [Builtin.append_, run_underlying ht, sizeOf, typeInfo, hi, Builtin.lenOf, Builtin.firstCells, hnc, storeCells]
theorem run_append_ints (ty t : TypeId) (ht : Tryz.prog.underlying t = some (.slice 3)) (w : World) (base : Nat) (v u : Value) (x y : List Int) (h : OwnI base w v x) (hu : IntsAt w u y) (hx : x.length ≤ 1000000) (hy : y.length ≤ 1000000) (hb : base ≤ w.heap.size) :
    ∃ A' c' w', (Builtin.append_ #[t, t] ty #[v, u]).run Tryz.prog w = .ok (.slice A' (x ++ y).length c') w' ∧ OwnI base w' (.slice A' (x ++ y).length c') (x ++ y) ∧ w.grownBy w' v.ownBlock ∧
      ((Value.slice A' (x ++ y).length c').ownBlock = v.ownBlock ∨ ∃ r, (Value.slice A' (x ++ y).length c').ownBlock = some r ∧ w.heap.size ≤ r) := by
  obtain ⟨i3, hi3, hz3, hs3, hb3⟩ := info3p
  have hl : (x ++ y).length = x.length + y.length := List.length_append
  obtain ⟨A, c, rfl, hc1, hc2, hc⟩ := hu.open_
  cases A with
  | none =>
    have h0 : y = [] := by
      rcases Nat.eq_zero_or_pos y.length with h0 | h0
      · exact List.length_eq_zero_iff.1 h0
      · obtain ⟨b, off, hx, -⟩ := hc h0
        cases hx
    subst h0
    obtain ⟨A', c', e⟩ := owns_form h
    subst e
    rw [List.append_nil]
    exact ⟨A', c', w, run_append_nil2 w base t ty 3 i3 ht hi3 c _ _ _ h, h, World.grownBy.refl w _, .inl rfl⟩
  | some a =>
    have hcells : ∀ j u, (ints y)[j]? = some u → w.cell? (a.add j) = some u := by
      intro j u hju
      have hj : j < y.length := by
        have := (List.getElem?_eq_some_iff.1 hju).1
        simpa [ints] using this
      obtain ⟨b, off, e, hcc⟩ := hc (by omega)
      cases e
      rw [Addr.add_lit, hcc j hj, ← hju]
      simp [ints, hj, List.getD_eq_getElem?_getD]
    obtain ⟨v', w', hr, hown, hg, -, hw⟩ := run_append_own_at (P := Tryz.prog) w base t ty 3 i3 (.int .i64 0) 1 8 ht hi3 hz3 hs3 hb3 rfl (by omega) v x.length (ints x) h a y.length c (ints y) (by simp [ints]) hcells (fun u hu => by
      obtain ⟨z, -, rfl⟩ := List.mem_map.1 hu; rfl) (by unfold maxLen; omega) (by omega) hb
    obtain ⟨A', c', rfl⟩ := owns_form hown
    refine ⟨A', c', w', by rw [hr, hl], by unfold OwnI; rw [hl, ints_app]; exact hown, hg, by rw [hl]; exact hw.imp id fun hh => ⟨_, hh, Nat.le_refl _⟩⟩
theorem make_t {t : TypeId} (ht : Tryz.prog.underlying t = some (.slice 3)) (w : World) (n : Nat) (hn : n ≤ 1000000) : ∃ w', (Instr.makeSlice t (.int .i64 (n : Int)) (.int .i64 (n : Int))).run Tryz.prog w = .ok (.slice (some ⟨w.heap.size, 0, none⟩) n n) w' ∧ XsAt w' w.heap.size (fillL 0 n) ∧ Below w.heap.size w w' := by
  obtain ⟨i, hi, hz, hs, hb⟩ := info3p
  have h := run_makeSlice (P := Tryz.prog) w t 3 i (.int .i64 0) ht hi hz .i64 .i64 n n (by omega) (Int.le_refl _) (by rw [hs]; simp; omega) (by rw [hb]; omega) (by omega)
  simp only [Int.toNat_natCast, hs, Nat.mul_one] at h
  rw [made3] at h
  refine ⟨_, h, ⟨_, heap_alloc_new w _, ?_, fun k hk => ?_⟩, (Below.refl _ _).alloc (Nat.le_refl _) _⟩
  · rw [length_fillL]
    simp
  · rw [length_fillL] at hk
    have : (fillL 0 n).getD k 0 = 0 := by simp [fillL, List.getD_eq_getElem?_getD, hk]
    rw [this]
    simp [hk]
def turnTo (w : List Int) (k : Nat) : List Int := (List.range w.length).map fun (j : Nat) => if w.length - k ≤ j then -(w.getD (w.length - 1 - j) 0) else 0
theorem length_turnTo (w : List Int) (k : Nat) : (turnTo w k).length = w.length := by simp [turnTo]
theorem turnTo_set {w : List Int} {k : Nat} (hk : k < w.length) : (turnTo w k).set (w.length - 1 - k) (-(w.getD k 0)) = turnTo w (k + 1) := by
  refine map_range_set ?_ fun j _ hne => ?_
  · rw [if_pos (by omega), show w.length - 1 - (w.length - 1 - k) = k by omega]
  · by_cases h : w.length - k ≤ j
    · rw [if_pos h, if_pos (by omega)]
    · rw [if_neg h, if_neg (by omega)]
theorem turnTo_zero (w : List Int) : turnTo w 0 = fillL 0 w.length := by
  unfold turnTo fillL
  apply List.map_congr_left
  intro j hj
  simp at hj
  rw [if_neg (by omega), if_neg (by omega)]
theorem turnTo_full (w : List Int) : turnTo w w.length = inv w := by
  refine getD_ext (d := 0) (by simp [length_turnTo, length_inv]) fun j hj => ?_
  rw [length_turnTo] at hj
  have hj2 : w.length - 1 - j < w.length := by omega
  simp [turnTo, inv, List.getD_eq_getElem?_getD, hj, hj2]
theorem mild_inv {w : List Int} (h : ∀ z ∈ w, Mild z) : ∀ z ∈ inv w, Mild z := fun z hz => by
  have := h _ (mem_inv hz)
  unfold Mild at *
  omega
theorem mild_turnTo {w : List Int} (h : ∀ z ∈ w, Mild z) (k : Nat) : Fits (turnTo w k) := fun z hz => by
  simp only [turnTo, List.mem_map] at hz
  obtain ⟨j, -, rfl⟩ := hz
  have := Mild.at_ h (w.length - 1 - j)
  unfold Mild at this
  split <;> omega
set_option maxRecDepth 100000 in
set_option maxHeartbeats 1000000 in
theorem turned116_any (w : World) (v : Value) (x : List Int) (h : IntsAt w v x) (hm : ∀ z ∈ x, Mild z) (hl : x.length ≤ 100000) :
    Calls Tryz.prog 55 #[v] w fun e w' => (∃ u, e = .returned u ∧ IntsAt w' u (inv x)) ∧ Below w.heap.size w w' := by
  obtain ⟨A0, c0, rfl, hc1, hc2, hc⟩ := h.open_
  obtain ⟨w1, hr1, hx1, hb1⟩ := make_t Tryz.underlying39 w x.length (by omega)
  rw [← turnTo_zero] at hx1
  have HR1 := Lib.hid hr1
  have HX1 := Lib.hid hx1
  have HB1 := Lib.hid hb1
  have HC := Lib.hid hc
  have HM := Lib.hid hm
  clear hc h hm hr1 hx1 hb1
  have hx0 : (0 : Int) ≤ (x.length : Int) := Int.natCast_nonneg _
  have hx3 : (x.length : Int) ≤ 100000 := by omega
  go_enter Tryz.func55, Tryz.ntmps55
  go_wp2_with ((with_reducible refine wpList_sel 8 ?_); refine wpList_val rfl (r_make 39 (.tmp 7) (.tmp 7) rfl rfl rfl HR1.out) ?_)
  go_loopw [11] (fun i wr => ∃ k : Nat, i = .int .i64 k ∧ k ≤ x.length ∧ Hid (XsAt wr w.heap.size (turnTo x k) ∧ Below w.heap.size w wr)) (fun i _ => x.length - (intOf i).toNat)
  case atStart => exact ⟨0, rfl, by omega, Lib.hid ⟨HX1.out, HB1.out⟩⟩
  case round =>
    clear HX1 HB1
    obtain ⟨k, rfl, hk, HS⟩ := hrel
    have hk0 : (0 : Int) ≤ (k : Int) := Int.natCast_nonneg _
    by_cases hlt : k < x.length
    · have hlt' : (k : Int) < (x.length : Int) := by omega
      obtain ⟨b, o, rfl, hcc⟩ := HC.out (by omega)
      have hck := hcc k hlt
      have hck' := (HS.out.2.cell (p := ⟨b, o + k, none⟩) (World.block_lt_of_cell? w _ hck)).trans hck
      have hmk := Mild.at_ HM.out k
      have HSET := Lib.hid (turnTo_set hlt)
      have hcx := HS.out.1.cell (k := x.length - 1 - k) (by rw [length_turnTo]; omega)
      have hfx := HS.out.1.frozen (x.length - 1 - k)
      have hset := HS.out.1.set (k := x.length - 1 - k) (by rw [length_turnTo]; omega) (-(x.getD k 0))
      rw [HSET.out] at hset
      have HST := Lib.hid hset
      clear hcc hck hset HSET
      generalize x.getD k 0 = z at *
      have hmk' : -4611686018427387903 ≤ z ∧ z ≤ 4611686018427387903 := hmk
      obtain ⟨hz1, hz2⟩ := hmk'
      obtain ⟨d, hd⟩ : ∃ d : Nat, x.length = d + 1 + k := ⟨x.length - 1 - k, by omega⟩
      have hdd : x.length - 1 - k = d := by omega
      rw [hdd] at hcx hfx HST
      have hidx : (x.length : Int) - 1 - (k : Int) = (d : Int) := by omega
      have hd0 : (0 : Int) ≤ (d : Int) := Int.natCast_nonneg _
      have hd1 : (d : Int) < (x.length : Int) := by omega
      have HD := Lib.hid hd
      have HDD := Lib.hid hdd
      clear hd hdd hmk
      go_wp2_with fail
      go_roundw
      case rel => exact ⟨k + 1, by go_num, by omega, Lib.hid ⟨HST.out, HS.out.2.grown (grown_setCell _ _ _ _) HS.out.2.size (fun k hk => by cases hk; exact Nat.le_refl _)⟩⟩
      case measure => simp [intOf]; omega
    · obtain rfl : k = x.length := by omega
      have HT := Lib.hid (HS.out.1.ints (n := x.length) (cap := x.length) (length_turnTo _ _) (Nat.le_refl _) (by omega) (mild_turnTo HM.out _))
      rw [turnTo_full] at HT
      go_wp2_with fail
      go_ret
      exact ⟨⟨_, rfl, HT.out⟩, HS.out.2⟩
end Go.Proofs
namespace Go.Proofs
open Go.RowKit Go.Shelf Go.Proofs.Ct
theorem RedPost.base {x : List Int} {w w1 : World} {e : Ending} {w' : World} (hb : Below w.heap.size w w1) (h : RedPost x w1 e w') : RedPost x w e w' := by
  obtain ⟨A, c, h1, h2, h3⟩ := h
  exact ⟨A, c, h1, owns_base h2 hb.size, hb.trans (h3.mono hb.size)⟩
set_option maxRecDepth 100000 in
theorem invert72_any (w : World) (v : Value) (x : List Int) (h : IntsAt w v x) (hm : ∀ z ∈ x, Mild z) (hl : x.length ≤ 100000) : Calls Tryz.prog 28 #[v] w (RedPost (inv x) w) := by
  have HC := Lib.hid (turned116_any w v x h hm hl)
  have HM := Lib.hid (mild_inv hm)
  have HL : Hid ((inv x).length ≤ 100000) := Lib.hid (by rw [length_inv]; exact hl)
  clear h hm hl
  go_enter Tryz.func28, Tryz.ntmps28
  go_wp2_with (first
    | (go_at_call 55
       (refine HC.out.mono ?_)
       rintro e w1 ⟨⟨u, rfl, hu⟩, hb⟩
       have HR := Lib.hid (reduce99_any w1 u (inv x) hu HM.out HL.out)
       have HB := Lib.hid hb
       clear hu hb)
    | (go_at_call 53
       (refine HR.out.mono ?_)
       rintro e w2 ⟨A, c, rfl, ho, hb⟩
       have HO := Lib.hid ho
       have HB2 := Lib.hid hb
       clear ho hb))
  go_ret
  exact RedPost.base HB.out ⟨A, c, rfl, HO.out, HB2.out⟩
theorem run_append_zeros (w : World) (n : Nat) (h0 : 0 < n) (hn : n ≤ 1000000) :
    (Builtin.append_ #[39, 3] 39 #[.slice none 0 0, .int .i64 (n : Int)]).run Tryz.prog w =
      .ok (.slice (some ⟨w.heap.size, 0, none⟩) n (grownCap w n 0 3)) (w.drew.alloc (.cells (Builtin.zeroCells #[.int .i64 0] n ++ Builtin.zeroCells #[.int .i64 0] (grownCap w n 0 3 - n)) 3)) := by
  obtain ⟨i, hi, hz, hs, hby⟩ := info3p
  have hwr : IntKind.i64.wrap (n : Int) = n := IntWalk.i64_in _ (by omega)
  have hn0 : n ≠ 0 := by omega
  have h48 : ¬ (281474976710656 < Builtin.nextslicecap n 0 * i.bytes) := by rw [nextslicecap_zero h0, hby]; omega
  have h48' : ¬ ((281474976710656 : Int) < (n : Int) * (i.bytes : Int)) := by rw [hby]; omega
  have h63' : ¬ (9223372036854775807 < (n : Int)) := by omega
  have hneg : ¬ ((n : Int) < 0) := by omega
  simp [Builtin.append_, run_underlying Tryz.underlying39, run_underlying Tryz.underlying3, sizeOf, typeInfo, zeroValue, hi, hz, hs, asInt, asIntOf, hwr, hneg, h48', hn0, h48, h63', Question.forced, run_firstCells_none, newRow, grownCap, Value.cells]
theorem r_app2 {o : Oper} {a : Act} {w w' : World} (s x : Operand) (t u : TypeId) {sv xv v' : Value} (ho : o.op = .call { callee := .builtin .append, args := #[s, x], argTypes := #[t, u] }) (hs : a.eval s = sv) (hx : a.eval x = xv)
    (hr : (Builtin.append_ #[t, u] o.type #[sv, xv]).run Tryz.prog w = .ok v' w') : (execOp a.eval o).run Tryz.prog w = .ok (.value v') w' := by
  unfold execOp
  simp only [ho, resolve, invoke, builtin, Sem.run_bind, Sem.run_pure, Result.andThen_ok, List.map_toArray, List.map_cons, List.map_nil, hs, hx, hr]
def GrowPost (w : World) (e : Ending) (w' : World) : Prop := ∃ A c, e = .returned (.slice A 0 c) ∧ OwnI w.heap.size w' (.slice A 0 c) [] ∧ Below w.heap.size w w'
set_option maxRecDepth 100000 in
theorem grow135_any (w : World) (n : Nat) (hn : n ≤ 1000000) : Calls Tryz.prog 85 #[.slice none 0 0, .int .i64 (n : Int)] w (GrowPost w) := by
  have hn0 : (0 : Int) ≤ (n : Int) := Int.natCast_nonneg _
  have hn1 : (n : Int) ≤ 1000000 := by omega
  by_cases h0 : n = 0
  · subst h0
    go_enter Tryz.func85, Tryz.ntmps85
    go_wp2_with fail
    go_ret
    exact ⟨none, 0, rfl, World.ownsRow_nil _ _ _ _, Below.refl _ _⟩
  · have hpos : (0 : Int) < (n : Int) := by omega
    have hr := run_append_zeros w n (by omega) hn
    have hcm := grownCap_le_maxLen w n 0 3 (by unfold maxLen; omega)
    have hcg := grownCap_ge w n 0 3
    have hsz : (Builtin.zeroCells #[Value.int .i64 0] n ++ Builtin.zeroCells #[Value.int .i64 0] (grownCap w n 0 3 - n)).size = grownCap w n 0 3 := by
      simp [size_zeroCells]; omega
    have hnew := heap_alloc_new w.drew (.cells (Builtin.zeroCells #[Value.int .i64 0] n ++ Builtin.zeroCells #[Value.int .i64 0] (grownCap w n 0 3 - n)) 3)
    have hbel : Below w.heap.size w (w.drew.alloc (.cells (Builtin.zeroCells #[Value.int .i64 0] n ++ Builtin.zeroCells #[Value.int .i64 0] (grownCap w n 0 3 - n)) 3)) := (below_drewN (Below.refl w.heap.size w) 1).alloc (Nat.le_refl _) _
    generalize Builtin.zeroCells #[Value.int .i64 0] n ++ Builtin.zeroCells #[Value.int .i64 0] (grownCap w n 0 3 - n) = C at *
    generalize grownCap w n 0 3 = cap at *
    have hown : OwnI w.heap.size (w.drew.alloc (.cells C 3)) (.slice (some ⟨w.heap.size, 0, none⟩) 0 cap) [] := ⟨rfl, .inr ⟨w.heap.size, cap, C, rfl, Nat.le_refl _, hnew, Nat.zero_le _, hcm, by omega, by simp [ints]⟩⟩
    generalize w.drew.alloc (.cells C 3) = W at *
    have hcm' : cap ≤ 9223372036854775807 := by unfold maxLen at hcm; exact hcm
    have hcg' : (n : Int) ≤ (cap : Int) := by omega
    have HR := Lib.hid hr
    have HO := Lib.hid hown
    have HB := Lib.hid hbel
    clear hr hown hbel hnew hsz hcm
    go_enter Tryz.func85, Tryz.ntmps85
    go_wp2_with ((with_reducible refine wpList_sel 22 ?_); refine wpList_val rfl (r_app2 (.tmp 20) (.tmp 21) 39 3 rfl rfl rfl HR.out) ?_)
    go_ret
    exact ⟨_, cap, rfl, HO.out, HB.out⟩
def flatTo (xs : List (List Int)) (k : Nat) : List Int := foldTo (fun k l => l ++ xs.getD k []) k []
def sumTo (xs : List (List Int)) (k : Nat) : Nat := foldTo (fun k l => l + (xs.getD k []).length) k 0
theorem flatTo_length (xs : List (List Int)) : ∀ k, (flatTo xs k).length = sumTo xs k
  | 0 => rfl
  | k + 1 => by
    show (flatTo xs k ++ xs.getD k []).length = sumTo xs k + (xs.getD k []).length
    rw [List.length_append, flatTo_length xs k]
theorem sumTo_mono (xs : List (List Int)) {k m : Nat} (h : k ≤ m) : sumTo xs k ≤ sumTo xs m := by
  obtain ⟨d, rfl⟩ := Nat.exists_eq_add_of_le h
  clear h
  induction d with
  | zero => exact Nat.le_refl _
  | succ d ih => exact Nat.le_trans ih (Nat.le_add_right _ _)
def CatPost (x : List Int) (w : World) (e : Ending) (w' : World) : Prop := ∃ A c, e = .returned (.slice A x.length c) ∧ OwnI w.heap.size w' (.slice A x.length c) x ∧ Below w.heap.size w w'
set_option maxRecDepth 100000 in
set_option maxHeartbeats 1000000 in
theorem concat100_any (w : World) (v : Value) (xs : List (List Int)) (h : Tab w v xs) (hl : sumTo xs xs.length ≤ 1000000) : Calls Tryz.prog 54 #[v] w (CatPost (flatTo xs xs.length) w) := by
  obtain ⟨A0, c0, rfl, hc1, hc2, hc⟩ := h.open_
  have HC := Lib.hid hc
  clear hc h
  have hx0 : (0 : Int) ≤ (xs.length : Int) := Int.natCast_nonneg _
  go_enter Tryz.func54, Tryz.ntmps54
  go_wp2_with fail
  go_loop [3, 11] (fun so i => ∃ k n : Nat, i = .int .i64 k ∧ k ≤ xs.length ∧ so = .int .i64 n ∧ Hid (n = sumTo xs k)) (fun _ i => xs.length - (intOf i).toNat)
  case atStart => exact ⟨0, 0, rfl, by omega, rfl, Lib.hid rfl⟩
  case round =>
    obtain ⟨k, n, rfl, hk, rfl, HN⟩ := hrel
    have hk0 : (0 : Int) ≤ (k : Int) := Int.natCast_nonneg _
    have hn0 : (0 : Int) ≤ (n : Int) := Int.natCast_nonneg _
    by_cases hlt : k < xs.length
    · have hlt' : (k : Int) < (xs.length : Int) := by omega
      obtain ⟨b, o, rfl, hcc⟩ := HC.out (by omega)
      obtain ⟨u, hu, hI⟩ := hcc k hlt
      obtain ⟨A5, c5, rfl, h1, h2, h3⟩ := hI.open_
      have hst : sumTo xs (k + 1) = sumTo xs k + (xs.getD k []).length := rfl
      have hmo := sumTo_mono xs (k := k + 1) (m := xs.length) (by omega)
      have hb : (n : Int) + ((xs.getD k []).length : Int) ≤ 1000000 := by have := HN.out; omega
      have HN2 : Hid (n + (xs.getD k []).length = sumTo xs (k + 1)) := Lib.hid (by rw [hst, HN.out])
      clear hcc hI h3 hst hmo
      generalize (xs.getD k []).length = q at *
      have hq0 : (0 : Int) ≤ (q : Int) := Int.natCast_nonneg _
      go_wp2_with fail
      go_round
      case rel => exact ⟨k + 1, n + q, by go_num, by omega, by go_num, HN2⟩
      case measure => simp [intOf]; omega
    · obtain rfl : k = xs.length := by omega
      have HG := Lib.hid (grow135_any w n (by have := HN.out; omega))
      go_wp2_with (go_at_call 85; (refine HG.out.mono ?_); rintro e w1 ⟨A1, c1, rfl, ho, hb⟩; have HO := Lib.hid ho; have HB := Lib.hid hb; clear ho hb)
      go_loopw [6, 27] (fun so i wr => ∃ k n : Nat, i = .int .i64 k ∧ k ≤ xs.length ∧ Hid (n = (flatTo xs k).length) ∧ ∃ A c, so = .slice A n c ∧ Hid (OwnI w.heap.size wr so (flatTo xs k) ∧ Below w.heap.size w wr)) (fun _ i _ => xs.length - (intOf i).toNat)
      case atStart => exact ⟨0, 0, rfl, by omega, Lib.hid rfl, _, _, rfl, Lib.hid ⟨HO.out, HB.out⟩⟩
      case round =>
        clear HO HB HG HN hn0 hk0
        obtain ⟨k, n, rfl, hk, HN, A, c, rfl, HS⟩ := hrel
        have hk0 : (0 : Int) ≤ (k : Int) := Int.natCast_nonneg _
        by_cases hlt : k < xs.length
        · have hlt' : (k : Int) < (xs.length : Int) := by omega
          obtain ⟨b, o, rfl, hcc⟩ := HC.out (by omega)
          obtain ⟨u, hu, hI⟩ := hcc k hlt
          have hu' := (HS.out.2.cell (p := ⟨b, o + k, none⟩) (World.block_lt_of_cell? w _ hu)).trans hu
          have hmo := sumTo_mono xs (k := k + 1) (m := xs.length) (by omega)
          have hst : sumTo xs (k + 1) = sumTo xs k + (xs.getD k []).length := rfl
          have hfl := flatTo_length xs k
          obtain ⟨A', c', w', hr, ho, hg, -⟩ := run_append_ints 39 39 Tryz.underlying39 wr w.heap.size (.slice A n c) u (flatTo xs k) (xs.getD k []) HS.out.1 (hI.below HS.out.2) (by omega) (by omega) HS.out.2.size
          have hs2 : flatTo xs k ++ xs.getD k [] = flatTo xs (k + 1) := rfl
          rw [hs2] at hr ho
          have HR := Lib.hid hr
          have HS2 : Hid (OwnI w.heap.size w' (.slice A' (flatTo xs (k + 1)).length c') (flatTo xs (k + 1)) ∧ Below w.heap.size w w') := Lib.hid ⟨ho, HS.out.2.grown hg HS.out.2.size (fun r hr => (owns_block HS.out.1 r hr).1)⟩
          clear hcc hu hI hmo hst hfl hr ho hg hs2
          go_wp2_with ((with_reducible refine wpList_sel 33 ?_); refine wpList_val rfl (r_app (.tmp 31) (.tmp 32) 39 rfl rfl rfl HR.out) ?_)
          go_roundw
          case rel => exact ⟨k + 1, _, by go_num, by omega, Lib.hid rfl, _, _, rfl, HS2⟩
          case measure => simp [intOf]; omega
        · obtain rfl : k = xs.length := by omega
          go_wp2_with fail
          go_ret
          exact ⟨A, c, by rw [← HN.out]; rfl, by rw [← HN.out]; exact HS.out.1, HS.out.2⟩
theorem tab_two (w : World) (u v : Value) (x y : List Int) (hu : IntsAt w u x) (hv : IntsAt w v y) {e : TypeId} : Tab (w.alloc (.cells #[u, v] e)) (.slice (some ⟨w.heap.size, 0, none⟩) 2 2) [x, y] := by
  have hb : Below w.heap.size w (w.alloc (.cells #[u, v] e)) := (Below.refl _ _).alloc (Nat.le_refl _) _
  refine ⟨[u, v], ⟨_, 2, 2, rfl, rfl, Nat.le_refl _, by simp [maxLen], fun _ => ⟨w.heap.size, 0, rfl, fun j z hz => ?_⟩⟩, rfl, fun i hi => ?_⟩
  · rw [cell_of_row _ _ _ _ _ _ (heap_alloc_new w _), Nat.zero_add]
    simpa using hz
  · have : i = 0 ∨ i = 1 := by simp at hi; omega
    rcases this with rfl | rfl
    · exact ⟨u, rfl, hu.below hb⟩
    · exact ⟨v, rfl, hv.below hb⟩
set_option maxRecDepth 100000 in
theorem mul41_any (w : World) (u v : Value) (x y : List Int) (hu : IntsAt w u x) (hv : IntsAt w v y) (hmx : ∀ z ∈ x, Mild z) (hmy : ∀ z ∈ y, Mild z) (hl : x.length + y.length ≤ 100000) : Calls Tryz.prog 26 #[u, v] w (RedPost (x ++ y) w) := by
  obtain ⟨A0, c0, rfl, h1, h2, h3⟩ := hu.open_
  obtain ⟨A1, c1, rfl, k1, k2, k3⟩ := hv.open_
  clear h3 k3
  have hb : Below w.heap.size w (w.alloc (.cells #[.slice A0 x.length c0, .slice A1 y.length c1] 39)) := (Below.refl _ _).alloc (Nat.le_refl _) _
  have hcat := concat100_any _ _ [x, y] (tab_two w _ _ x y hu hv (e := 39)) (by simp [sumTo, foldTo]; omega)
  have hfl : flatTo [x, y] ([x, y] : List (List Int)).length = x ++ y := by simp [flatTo, foldTo]
  rw [hfl] at hcat
  have HC := Lib.hid hcat
  have HB := Lib.hid hb
  have HM : Hid (∀ z ∈ x ++ y, Mild z) := Lib.hid fun z hz => (List.mem_append.1 hz).elim (hmx z) (hmy z)
  have HL : Hid ((x ++ y).length ≤ 100000) := Lib.hid (by rw [List.length_append]; exact hl)
  clear hcat hb hu hv hmx hmy hfl
  generalize x ++ y = z at *
  go_enter Tryz.func26, Tryz.ntmps26
  go_wp2_with (first
    | (go_at_call 54
       (refine HC.out.mono ?_)
       rintro e w1 ⟨A, c, rfl, ho, hb⟩
       have HR := Lib.hid (reduce99_any w1 _ z (ho.ints (Mild.fits HM.out)) HM.out HL.out)
       have HB1 := Lib.hid (HB.out.trans (hb.mono HB.out.size))
       clear ho hb)
    | (go_at_call 53
       (refine HR.out.mono ?_)
       rintro e w2 ⟨A, c, rfl, ho, hb⟩
       have HO := Lib.hid ho
       have HB2 := Lib.hid hb
       clear ho hb))
  go_ret
  exact RedPost.base HB1.out ⟨_, _, rfl, HO.out, HB2.out⟩
end Go.Proofs
namespace Go.Proofs
open Go.RowKit Go.Shelf Go.Proofs.Ct Go.Maps Go.WideMaps
theorem laidOutT : laidOutB Tryz.prog = true := by kernel_rfl
theorem row102 : (69 : TypeId) < Tryz.prog.types.size := of_decide_eq_true (by kernel_rfl)
theorem law102 : Keyed Tryz.prog 69 := Keyed.of_law (deep_law_laid laidOutT (m := 2) (by omega) row102 (by kernel_rfl) (by
  have h := Tryz.underlying69
  generalize Tryz.prog.underlying 69 = u at *
  subst h
  rfl))
theorem cells102 : Tryz.prog.cellsOf 69 = 2 := by kernel_rfl
theorem formed102 {c0 c1 : Value} : (Value.agg #[c0, c1]).formed Tryz.prog 69 = true := by simp [Value.formed, Tryz.underlying69, cells102]
theorem cells3 : Tryz.prog.cellsOf 3 = 1 := by kernel_rfl
theorem lits3 {a : Int} (ha : I64 a) (d : Nat) : Tryz.prog.keyLits (d + 1) 3 [.int .i64 a] = some [.int .i64 a] := by
  have wa := WalkArith.wf_i64 ha
  unfold Program.keyLits
  rw [Tryz.underlying3]
  simp [wa]
theorem lits102 {a b : Int} (ha : I64 a) (hb : I64 b) (d : Nat) : Tryz.prog.keyLits (d + 2) 69 [.int .i64 a, .int .i64 b] = some [.int .i64 a, .int .i64 b] := by
  have h := Tryz.underlying69
  unfold Program.keyLits
  generalize Tryz.prog.underlying 69 = u at *
  subst h
  simp only [cells102, cells3, List.length_cons, List.length_nil, if_true]
  have h1 := lits3 ha d
  have h2 := lits3 hb d
  simp [List.range_succ, h1, h2]
theorem keyType102 : Tryz.prog.keyType 69 = true := by kernel_rfl
theorem key102 {a b : Int} (ha : I64 a) (hb : I64 b) : ∃ l, keyOf Tryz.prog 69 (.agg #[.int .i64 a, .int .i64 b]) = some l := by
  obtain ⟨d, hd⟩ : ∃ d, Tryz.prog.types.size + 1 = d + 2 := ⟨Tryz.prog.types.size - 1, by have : (69 : Nat) < Tryz.prog.types.size := row102; omega⟩
  have hl := lits102 ha hb d
  refine ⟨.string (keyBytes [.int .i64 a, .int .i64 b]), ?_⟩
  have h := Tryz.underlying69
  have hf : (Value.agg #[.int .i64 a, .int .i64 b]).formed Tryz.prog 69 = true := formed102
  unfold keyOf
  rw [keyType102, hf, hd]
  generalize Tryz.prog.underlying 69 = u at *
  subst h
  simp [Value.cells, hl]
end Go.Proofs
