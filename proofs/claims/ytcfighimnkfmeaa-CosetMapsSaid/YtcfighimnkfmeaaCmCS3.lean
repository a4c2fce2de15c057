/- Equality of tables and words; a copy by append; slices.Clone; letter; coset.Standard; cayleyref18.Standard. -/
import Derived.Test.YtcfighimnkfmeaaCmCS2
namespace Go.Proofs
open Go.RowKit Go.Shelf Go.Proofs.Ct
set_option maxRecDepth 100000 in
set_option maxHeartbeats 400000 in
theorem same18_any (w : World) (va vb : Value) (A B : List (List Int)) (ha : Tab w va A) (hb : Tab w vb B) :
    Calls Try.prog 34 #[va, vb] w fun e w' => e = .returned (.bool (decide (A = B))) ∧ ∃ q, w' = w.drewN q := by
  obtain ⟨A0, ca, rfl, ha1, ha2, ha3⟩ := ha.open_
  obtain ⟨B0, cb, rfl, hb1, hb2, hb3⟩ := hb.open_
  have HA := Lib.hid ha3
  have HB := Lib.hid hb3
  clear ha hb ha3 hb3
  by_cases hl : A.length = B.length
  · have d1 : ((A.length : Int) != (B.length : Int)) = false := by simp; omega
    have d2 : (A.length != B.length) = false := by simp; omega
    have HL := Lib.hid hl
    clear hl
    go_enter Try.func34, Try.ntmps34
    go_wp2_with fail
    go_loopw [5] (fun i wr => ∃ k : Nat, k ≤ A.length ∧ i = .int .i64 k ∧ (∀ j, j < k → A.getD j [] = B.getD j []) ∧ ∃ q, wr = w.drewN q) (fun i _ => A.length - (intOf i).toNat)
    case atStart => exact ⟨0, Nat.zero_le _, rfl, fun j hj => absurd hj (by omega), 0, rfl⟩
    case round =>
      obtain ⟨k, hk, rfl, hz, q, rfl⟩ := hrel
      have HZ := Lib.hid hz
      clear hz
      by_cases hlt : k < A.length
      · obtain ⟨b1, o1, rfl, hc1⟩ := HA.out (by omega)
        obtain ⟨b2, o2, rfl, hc2⟩ := HB.out (by rw [← HL.out]; omega)
        obtain ⟨u1, hu1, hr1⟩ := hc1 k hlt
        obtain ⟨u2, hu2, hr2⟩ := hc2 k (by rw [← HL.out]; omega)
        obtain ⟨A3, c3, rfl, hd1, hd2, hd⟩ := hr1.open_
        obtain ⟨A4, c4, rfl, he1, he2, he⟩ := hr2.open_
        have hk0 : (0 : Int) ≤ (k : Int) := Int.natCast_nonneg _
        have hkb : (k : Int) < (B.length : Int) := by rw [← HL.out]; omega
        have hka : (k : Int) < (A.length : Int) := by omega
        have HN := Lib.hid (fun h => getD_ne (A := A) (B := B) (d := []) (k := k) h)
        generalize hxe : A.getD k [] = x at *
        generalize hye : B.getD k [] = y at *
        have HXE := Lib.hid hxe
        have HYE := Lib.hid hye
        clear hxe hye
        have HD := Lib.hid hd
        have HE := Lib.hid he
        clear hc1 hc2 hr1 hr2 hd he
        by_cases hxy : x.length = y.length
        · have d3 : ((x.length : Int) != (y.length : Int)) = false := by simp; omega
          have d4 : (x.length != y.length) = false := by simp; omega
          have HX := Lib.hid hxy
          clear hxy
          go_wp2_with fail
          go_quiet (fail)
          go_wp2_with fail
          go_loopw [6] (fun i wr => ∃ j : Nat, j ≤ x.length ∧ i = .int .i64 j ∧ (∀ t, t < j → x.getD t 0 = y.getD t 0) ∧ ∃ q, wr = w.drewN q) (fun i _ => x.length - (intOf i).toNat)
          case atStart => exact ⟨0, Nat.zero_le _, rfl, fun j hj => absurd hj (by omega), (by first | exact ⟨_, rfl⟩ | exact ex_drewN)⟩
          case round =>
            obtain ⟨j, hj, rfl, hzj, qj, rfl⟩ := hrel
            have HZJ := Lib.hid hzj
            clear hzj
            by_cases hjl : j < x.length
            · obtain ⟨b3, o3, rfl, hx⟩ := HD.out (by omega)
              obtain ⟨b4, o4, rfl, hy⟩ := HE.out (by rw [← HX.out]; omega)
              have hx1 := hx j hjl
              have hy1 := hy j (by rw [← HX.out]; omega)
              have hj0 : (0 : Int) ≤ (j : Int) := Int.natCast_nonneg _
              have hjb : (j : Int) < (y.length : Int) := by rw [← HX.out]; omega
              have hja : (j : Int) < (x.length : Int) := by omega
              have HM := Lib.hid (fun h => getD_ne (A := x) (B := y) (d := 0) (k := j) h)
              clear hx hy
              generalize hse : x.getD j 0 = s at *
              generalize hte : y.getD j 0 = t at *
              have HSE := Lib.hid hse
              have HTE := Lib.hid hte
              clear hse hte
              by_cases hst : s = t
              · have d5 : (s != t) = false := by simpa using hst
                have HS := Lib.hid hst
                clear hst
                go_wp2_with fail
                go_quiet (fail)
                go_wp2_with fail
                go_roundw
                case rel => exact ⟨j + 1, by omega, by go_num, all_succ HZJ.out (by rw [HSE.out, HTE.out]; exact HS.out), (by first | exact ⟨_, rfl⟩ | exact ex_drewN)⟩
                case measure => simp [intOf]; omega
              · have d5 : (s != t) = true := by simpa using hst
                have HS := Lib.hid hst
                clear hst
                go_wp2_with fail
                go_quiet (fail)
                go_wp2_with fail
                go_ret
                exact ⟨ret_bool (by simpa using HN.out (HM.out HS.out)), (by first | exact ⟨_, rfl⟩ | exact ex_drewN)⟩
            · obtain rfl : j = x.length := by omega
              go_wp2_with fail
              go_roundw
              case rel => exact ⟨k + 1, by omega, by go_num, all_succ HZ.out (by rw [HXE.out, HYE.out]; exact getD_ext HX.out HZJ.out), _, rfl⟩
              case measure => simp [intOf]; omega
        · have d3 : ((x.length : Int) != (y.length : Int)) = true := by simp; omega
          have d4 : (x.length != y.length) = true := by simp; omega
          have HX := Lib.hid hxy
          clear hxy
          go_wp2_with fail
          go_quiet (fail)
          go_wp2_with fail
          go_ret
          exact ⟨ret_bool (by simpa using HN.out (fun e => HX.out (by rw [e]))), (by first | exact ⟨_, rfl⟩ | exact ex_drewN)⟩
      · obtain rfl : k = A.length := by omega
        go_wp2_with fail
        go_ret
        exact ⟨ret_bool (by simpa using getD_ext HL.out HZ.out), _, rfl⟩
  · have d1 : ((A.length : Int) != (B.length : Int)) = true := by simp; omega
    have d2 : (A.length != B.length) = true := by simp; omega
    have HL := Lib.hid hl
    clear hl
    go_enter Try.func34, Try.ntmps34
    go_wp2_with fail
    go_ret
    exact ⟨ret_bool (by simpa using fun e => HL.out (by rw [e])), 0, rfl⟩
set_option maxRecDepth 100000 in
set_option maxHeartbeats 400000 in
theorem equal142_any (w : World) (va vb : Value) (x y : List Int) (ha : IntsAt w va x) (hb : IntsAt w vb y) :
    Calls Try.prog 142 #[va, vb] w fun e w' => e = .returned (.bool (decide (x = y))) ∧ ∃ q, w' = w.drewN q := by
  obtain ⟨A3, c3, rfl, hd1, hd2, hd⟩ := ha.open_
  obtain ⟨A4, c4, rfl, he1, he2, he⟩ := hb.open_
  have HD := Lib.hid hd
  have HE := Lib.hid he
  clear ha hb hd he
  have HN := Lib.hid (fun (h : x.length ≠ y.length) (e : x = y) => h (by rw [e]))
  by_cases hxy : x.length = y.length
  · have d3 : ((x.length : Int) != (y.length : Int)) = false := by simp; omega
    have d4 : (x.length != y.length) = false := by simp; omega
    have HX := Lib.hid hxy
    clear hxy
    go_enter Try.func142, Try.ntmps142
    go_wp2_with fail
    go_loopw [5, 13] (fun _ i wr => ∃ j : Nat, j ≤ x.length ∧ i = .int .i64 j ∧ (∀ t, t < j → x.getD t 0 = y.getD t 0) ∧ ∃ q, wr = w.drewN q) (fun _ i _ => x.length - (intOf i).toNat)
    case atStart => exact ⟨0, Nat.zero_le _, rfl, fun j hj => absurd hj (by omega), 0, rfl⟩
    case round =>
      obtain ⟨j, hj, rfl, hzj, qj, rfl⟩ := hrel
      have HZJ := Lib.hid hzj
      clear hzj
      by_cases hjl : j < x.length
      · obtain ⟨b3, o3, rfl, hx⟩ := HD.out (by omega)
        obtain ⟨b4, o4, rfl, hy⟩ := HE.out (by rw [← HX.out]; omega)
        have hx1 := hx j hjl
        have hy1 := hy j (by rw [← HX.out]; omega)
        have hj0 : (0 : Int) ≤ (j : Int) := Int.natCast_nonneg _
        have hjb : (j : Int) < (y.length : Int) := by rw [← HX.out]; omega
        have hja : (j : Int) < (x.length : Int) := by omega
        have HM := Lib.hid (fun h => getD_ne (A := x) (B := y) (d := 0) (k := j) h)
        clear hx hy
        generalize hse : x.getD j 0 = s at *
        generalize hte : y.getD j 0 = t at *
        have HSE := Lib.hid hse
        have HTE := Lib.hid hte
        clear hse hte
        by_cases hst : s = t
        · have d5 : (s != t) = false := by simpa using hst
          have HS := Lib.hid hst
          clear hst
          go_wp2_with fail
          go_quiet (fail)
          go_wp2_with fail
          go_roundw
          case rel => exact ⟨j + 1, by omega, by go_num, all_succ HZJ.out (by rw [HSE.out, HTE.out]; exact HS.out), (by first | exact ⟨_, rfl⟩ | exact ex_drewN)⟩
          case measure => simp [intOf]; omega
        · have d5 : (s != t) = true := by simpa using hst
          have HS := Lib.hid hst
          clear hst
          go_wp2_with fail
          go_quiet (fail)
          go_wp2_with fail
          go_ret
          exact ⟨ret_bool (by simpa using HM.out HS.out), (by first | exact ⟨_, rfl⟩ | exact ex_drewN)⟩
      · obtain rfl : j = x.length := by omega
        go_wp2_with fail
        go_ret
        exact ⟨ret_bool (by simpa using getD_ext HX.out HZJ.out), (by first | exact ⟨_, rfl⟩ | exact ex_drewN)⟩
  · have d3 : ((x.length : Int) != (y.length : Int)) = true := by simp; omega
    have d4 : (x.length != y.length) = true := by simp; omega
    have HX := Lib.hid hxy
    clear hxy
    go_enter Try.func142, Try.ntmps142
    go_wp2_with fail
    go_ret
    exact ⟨ret_bool (by simpa using HN.out HX.out), 0, rfl⟩
theorem eg142 : ∀ args w, (callFunc 142 args).run Try.prog w = .ok (.enter 142 args) w := enters_of Try.func142 (by kernel_rfl) rfl
set_option maxRecDepth 100000 in
set_option maxHeartbeats 400000 in
theorem equalF141_any (w : World) (va vb : Value) (A B : List (List Int)) (ha : Tab w va A) (hb : Tab w vb B) :
    Calls Try.prog 141 #[va, vb, .func (.func 142) #[] #[]] w fun e w' => e = .returned (.bool (decide (A = B))) ∧ ∃ q, w' = w.drewN q := by
  have HEG := eg142
  obtain ⟨A0, ca, rfl, ha1, ha2, ha3⟩ := ha.open_
  obtain ⟨B0, cb, rfl, hb1, hb2, hb3⟩ := hb.open_
  have HA := Lib.hid ha3
  have HB := Lib.hid hb3
  clear ha hb ha3 hb3
  by_cases hl : A.length = B.length
  · have d1 : ((A.length : Int) != (B.length : Int)) = false := by simp; omega
    have d2 : (A.length != B.length) = false := by simp; omega
    have HL := Lib.hid hl
    clear hl
    go_enter Try.func141, Try.ntmps141
    go_wp2_with fail
    go_loopw [17] (fun i wr => ∃ k : Nat, k ≤ A.length ∧ i = .int .i64 k ∧ (∀ j, j < k → A.getD j [] = B.getD j []) ∧ ∃ q, wr = w.drewN q) (fun i _ => A.length - (intOf i).toNat)
    case atStart => exact ⟨0, Nat.zero_le _, rfl, fun j hj => absurd hj (by omega), 0, rfl⟩
    case round =>
      obtain ⟨k, hk, rfl, hz, q, rfl⟩ := hrel
      have HZ := Lib.hid hz
      clear hz
      by_cases hlt : k < A.length
      · obtain ⟨b1, o1, rfl, hc1⟩ := HA.out (by omega)
        obtain ⟨b2, o2, rfl, hc2⟩ := HB.out (by rw [← HL.out]; omega)
        obtain ⟨u1, hu1, hr1⟩ := hc1 k hlt
        obtain ⟨u2, hu2, hr2⟩ := hc2 k (by rw [← HL.out]; omega)
        have hk0 : (0 : Int) ≤ (k : Int) := Int.natCast_nonneg _
        have hkb : (k : Int) < (B.length : Int) := by rw [← HL.out]; omega
        have hka : (k : Int) < (A.length : Int) := by omega
        have HN := Lib.hid (fun h => getD_ne (A := A) (B := B) (d := []) (k := k) h)
        have hcall : Calls Try.prog 142 #[u1, u2] (w.drewN q) fun e w' => e = .returned (.bool (decide (A.getD k [] = B.getD k []))) ∧ ∃ q', w' = (w.drewN q).drewN q' := equal142_any (w.drewN q) u1 u2 _ _ (hr1.drewN q) (hr2.drewN q)
        have HXY : Hid (A.getD k [] = B.getD k [] → ∀ j, j < k + 1 → A.getD j [] = B.getD j []) := Lib.hid fun h => all_succ HZ.out h
        clear hc1 hc2 hr1 hr2
        by_cases hxy : A.getD k [] = B.getD k []
        · rw [decide_eq_true hxy] at hcall
          have HC := Lib.hid hcall
          have HS := Lib.hid (HXY.out hxy)
          clear hcall hxy
          go_wp2_with (go_at_fn 142; (refine HC.out.mono ?_); rintro e w' ⟨rfl, q', rfl⟩)
          go_roundw
          case rel => exact ⟨k + 1, by omega, by go_num, HS.out, (by first | exact ⟨_, rfl⟩ | exact ex_drewN)⟩
          case measure => simp [intOf]; omega
        · rw [decide_eq_false hxy] at hcall
          have HC := Lib.hid hcall
          have HS := Lib.hid (HN.out hxy)
          clear hcall hxy
          go_wp2_with (go_at_fn 142; (refine HC.out.mono ?_); rintro e w' ⟨rfl, q', rfl⟩)
          go_ret
          exact ⟨ret_bool (by simpa using HS.out), (by first | exact ⟨_, rfl⟩ | exact ex_drewN)⟩
      · obtain rfl : k = A.length := by omega
        go_wp2_with fail
        go_ret
        exact ⟨ret_bool (by simpa using getD_ext HL.out HZ.out), _, rfl⟩
  · have d1 : ((A.length : Int) != (B.length : Int)) = true := by simp; omega
    have d2 : (A.length != B.length) = true := by simp; omega
    have HL := Lib.hid hl
    clear hl
    go_enter Try.func141, Try.ntmps141
    go_wp2_with fail
    go_ret
    exact ⟨ret_bool (by simpa using fun e => HL.out (by rw [e])), 0, rfl⟩
theorem same109_any (w : World) (va vb : Value) (A B : List (List Int)) (ha : Tab w va A) (hb : Tab w vb B) :
    Calls Try.prog 109 #[va, vb] w fun e w' => e = .returned (.bool (decide (A = B))) ∧ ∃ q, w' = w.drewN q := by
  have HC := Lib.hid (equalF141_any w va vb A B ha hb)
  clear ha hb
  generalize decide (A = B) = r at *
  go_enter Try.func109, Try.ntmps109
  go_wp2_with (go_at_call 141; (refine HC.out.mono ?_); rintro e w' ⟨rfl, q, rfl⟩)
  go_ret
  exact ⟨rfl, _, rfl⟩
def ltrI (c : Int) : Int := if c % 2 = 1 then -(c / 2 + 1) else c / 2 + 1
theorem letter_ltrI (c : Nat) : letter c = ltrI c := by
  unfold letter ltrI
  by_cases h : c % 2 = 1
  · rw [if_pos h, if_pos (by omega)]; omega
  · rw [if_neg h, if_neg (by omega)]; omega
set_option maxRecDepth 100000 in
theorem letter110_int (w : World) (c : Int) (h0 : 0 ≤ c) (h1 : c ≤ 1000000) : Calls Try.prog 110 #[.int .i64 c] w fun e w' => e = .returned (.int .i64 (ltrI c)) ∧ w = w' := by
  by_cases h : c % 2 = 1
  · have d1 : (c % 2 == 1) = true := beq_iff_eq.2 h
    have HL : Hid (ltrI c = -(c / 2 + 1)) := Lib.hid (if_pos h)
    clear h
    go_enter Try.func110, Try.ntmps110
    go_wp2_with fail
    go_ret
    exact ⟨by rw [HL.out]; rfl, rfl⟩
  · have d1 : (c % 2 == 1) = false := beq_eq_false_iff_ne.2 h
    have HL : Hid (ltrI c = c / 2 + 1) := Lib.hid (if_neg h)
    clear h
    go_enter Try.func110, Try.ntmps110
    go_wp2_with fail
    go_ret
    exact ⟨by rw [HL.out]; rfl, rfl⟩
theorem letter110_any (w : World) (c : Nat) (hc : c ≤ 1000000) : Calls Try.prog 110 #[.int .i64 (c : Int)] w fun e w' => e = .returned (.int .i64 (letter c)) ∧ w = w' := by
  rw [letter_ltrI]
  exact letter110_int w c (by omega) (by omega)
theorem src_ints {t : TypeId} (ht : Try.prog.underlying t = some (.slice 3)) {w : World} {v : Value} {y : List Int} (h : IntsAt w v y) : Src Try.prog 1 t v y.length (ints y) w := by
  obtain ⟨⟨A, n, cap, rfl, hn, hc, hm, hr⟩, -⟩ := h
  have hl : n = y.length := by simpa [ints] using hn
  subst hl
  rcases Nat.eq_zero_or_pos y.length with h0 | h0
  · obtain rfl : y = [] := List.length_eq_zero_iff.1 h0
    cases A with
    | none => exact Src.ofNil w ht cap
    | some a => exact Src.ofSlice w ht a 0 cap [] rfl (fun j u hu => by simp at hu) (fun u hu => by cases hu)
  · obtain ⟨b, off, rfl, hrow⟩ := hr h0
    exact Src.ofSlice w ht _ _ cap (ints y) (by simp [ints]) (fun j u hu => by rw [Addr.add_lit]; exact hrow j u hu) (fun u hu => by obtain ⟨x, -, rfl⟩ := List.mem_map.1 hu; rfl)
/-- append([]int{}, y...): the copy lies in a block of its own -/
theorem run_copy {t : TypeId} (ht : Try.prog.underlying t = some (.slice 3)) {w : World} {v : Value} {y : List Int} (h : IntsAt w v y) (hl : y.length ≤ 1000000) :
    ∃ A cap w', (Builtin.append_ #[t, t] t #[.slice (some ⟨w.heap.size, 0, none⟩) 0 0, v]).run Try.prog (w.alloc (.cells #[] 3)) = .ok (.slice A y.length cap) w' ∧
      Below w.heap.size w w' ∧ OwnI w.heap.size w' (.slice A y.length cap) y := by
  obtain ⟨i, hi, hz, hs, hby⟩ := info3p
  have hal : Below w.heap.size w (w.alloc (.cells #[] 3)) := (Below.refl _ _).alloc (Nat.le_refl _) _
  have hnew := heap_alloc_new w (.cells #[] 3)
  have hsz : (w.alloc (.cells #[] 3)).heap.size = w.heap.size + 1 := by simp
  have hsrc := src_ints ht (h.below hal)
  generalize w.alloc (.cells #[] 3) = W at *
  rcases Nat.eq_zero_or_pos y.length with h0 | h0
  · obtain rfl : y = [] := List.length_eq_zero_iff.1 h0
    have := run_append_room_src (P := Try.prog) W t t t 3 i ht hi w.heap.size 0 0 0 v 0 [] (by rw [hs]; exact hsrc) (Nat.le_refl _) (fun j hj => absurd hj (by simp)) (fun j hj => absurd hj (by simp))
    exact ⟨_, 0, W, this, hal, rfl, .inr ⟨w.heap.size, 0, #[], rfl, Nat.le_refl _, hnew, Nat.le_refl _, by simp, rfl, rfl⟩⟩
  · have hold : (Builtin.firstCells i.size 0 (.slice (some ⟨w.heap.size, 0, none⟩) 0 0)).run Try.prog W.drew = .ok ([] : List Value).toArray W.drew := by
      rw [hs]
      exact run_firstCells_some W.drew 1 0 ⟨w.heap.size, 0, none⟩ 0 0 [] rfl (fun j u hu => by simp at hu)
    have hg := run_append_grow_src (P := Try.prog) W t t t 3 i (.int .i64 0) ht hi hz (some ⟨w.heap.size, 0, none⟩) 0 0 [] hold v y.length (ints y) (by rw [hs]; exact hsrc) (by omega) (by omega) (growslice_fits (by omega) (by rw [hby]; omega))
    simp only [Nat.zero_add, List.nil_append] at hg
    have hcm := grownCap_le_maxLen W y.length 0 3 (by unfold maxLen; omega)
    have hcg := grownCap_ge W y.length 0 3
    refine ⟨_, _, _, hg, hal.trans ⟨rfl, rfl, rfl, by simp, fun k hk => (Below.heap_alloc W.drew _ k (by show k < W.heap.size; omega))⟩, by simp [ints], .inr ⟨W.heap.size, _, _, rfl, by omega, heap_alloc_new W.drew _, hcg, hcm, ?_, ?_⟩⟩
    · simp [ints, size_zeroCells, Value.cells]
      omega
    · simp [ints]
theorem eqnil_none (w : World) (n c : Nat) : (binOp .eql 25 (.slice none n c) (.slice none 0 0)).run Try.prog w = .ok (.bool true) w := by kernel_rfl
theorem eqnil_some (w : World) (a : Addr) (n c : Nat) : (binOp .eql 25 (.slice (some a) n c) (.slice none 0 0)).run Try.prog w = .ok (.bool false) w := by kernel_rfl
set_option maxRecDepth 100000 in
theorem clone71_any (w : World) (v : Value) (xs : List Int) (h : IntsAt w v xs) (hl : xs.length ≤ 1000000) :
    Calls Try.prog 71 #[v] w fun e w' => ∃ A c, e = .returned (.slice A xs.length c) ∧ OwnI w.heap.size w' (.slice A xs.length c) xs ∧ Below w.heap.size w w' := by
  obtain ⟨A0, c0, w', hr, hb, ho⟩ := run_copy Try.underlying25 h hl
  have HR := Lib.hid hr
  have HB := Lib.hid hb
  have HO := Lib.hid ho
  obtain ⟨A, cap, rfl, hcap, hmax, hc⟩ := h.open_
  cases A with
  | none =>
    have h0 : xs = [] := by
      rcases Nat.eq_zero_or_pos xs.length with h0 | h0
      · exact List.length_eq_zero_iff.1 h0
      · obtain ⟨b, off, hx, -⟩ := hc h0
        cases hx
    clear hr hb ho hc h HR HB HO
    subst h0
    have hq := eqnil_none w
    go_enter Try.func71, Try.ntmps71
    go_wp2_with fail
    go_ret
    exact ⟨none, 0, rfl, World.ownsRow_nil _ _ _ _, Below.refl _ _⟩
  | some a =>
    clear hr hb ho hc h
    have hq := eqnil_some w
    go_enter Try.func71, Try.ntmps71
    go_wp2_with ((with_reducible refine wpList_sel 7 ?_); refine wpList_val rfl (r_app (.tmp 5) (.tmp 6) 25 rfl rfl rfl HR.out) ?_)
    go_ret
    exact ⟨_, _, rfl, HO.out, HB.out⟩
end Go.Proofs
namespace Go.Proofs
open Go.RowKit Go.Shelf Go.Proofs.Ct
/-- u reads as xs by blocks from base on -/
def TabB (base : Nat) (w : World) (u : Value) (xs : List (List Int)) : Prop := ∀ w' : World, (∀ k, base ≤ k → k < w.heap.size → w'.heap[k]? = w.heap[k]?) → Tab w' u xs
theorem TabB.at_ {base : Nat} {w : World} {u : Value} {xs : List (List Int)} (h : TabB base w u xs) : Tab w u xs := h w fun _ _ _ => rfl
theorem TabB.nil {base : Nat} {w : World} : TabB base w (.slice none 0 0) [] := fun _ _ => tab_nil
theorem TabB.keep {base : Nat} {w w' : World} {u : Value} {xs : List (List Int)} (h : TabB base w u xs) (hs : w.heap.size ≤ w'.heap.size) (hk : ∀ k, base ≤ k → k < w.heap.size → w'.heap[k]? = w.heap[k]?) : TabB base w' u xs := fun w'' h'' => h w'' fun k h1 h2 => (h'' k h1 (by omega)).trans (hk k h1 h2)
theorem StdSt.tabB {bm : Nat} {F : Nat → Prop} {w0 wr : World} {vo vout : Value} {o : List Int} {rows : Tb} (h : StdSt bm F w0 wr vo vout o rows) : TabB w0.heap.size wr vout rows := fun w' hw => by
  have hub := h.out.block
  exact (h.out.keep (G := F) (fun r hr => hw r (hub r hr).1 (by obtain ⟨-, C, hC⟩ := hub r hr; exact (Array.getElem?_eq_some_iff.1 hC).1)) (fun k hk => hw k (h.fs k hk).1 (h.fs k hk).2.1) (fun _ h => h)).tab
def StdPost (g : Int) (t : Tb) (b : Int) (w : World) (e : Ending) (w' : World) : Prop := (∃ u, e = .returned (.tuple #[u, .int .i64 (stdE g t b).2]) ∧ Tab w' u (stdE g t b).1) ∧ Below w.heap.size w w'
def StdPostB (g : Int) (t : Tb) (b : Int) (w : World) (e : Ending) (w' : World) : Prop := (∃ u, e = .returned (.tuple #[u, .int .i64 (stdE g t b).2]) ∧ TabB w.heap.size w' u (stdE g t b).1) ∧ Below w.heap.size w w'
set_option maxRecDepth 100000 in
set_option maxHeartbeats 1000000 in
theorem std48_bad (w : World) (v : Value) (g : Int) (t : Tb) (b : Int) (ht : Tab w v t) (hb : (check g t).1 ≠ 0 ∨ b < 0 ∨ (t.length : Int) ≤ b) : Calls Try.prog 48 #[.int .i64 g, v, .int .i64 b] w (StdPost g t b w) := by
  have HC := Lib.hid (check43_any w v g t ht)
  obtain ⟨A, c, rfl, hc1, hc2, hc⟩ := ht.open_
  clear hc ht
  by_cases h1 : (check g t).1 = 0
  · have hb' : b < 0 ∨ (t.length : Int) ≤ b := by
      rcases hb with h | h
      · exact absurd h1 h
      · exact h
    have HE : Hid (stdE g t b = ([], 2)) := Lib.hid (by unfold stdE; rw [if_neg (by simp [h1]), if_pos hb'])
    have HC' : Hid (Calls Try.prog 43 #[.int .i64 g, .slice A t.length c] w fun e w' => e = .returned (.tuple #[.int .i64 0, .int .i64 (-1)]) ∧ Below w.heap.size w w') :=
      Lib.hid (HC.out.mono fun e w' ⟨h2, h3⟩ => by rw [(check_good h1).2.2] at h2; exact ⟨h2, h3⟩)
    clear hb HC h1
    by_cases h2 : b < 0
    · go_enter Try.func48, Try.ntmps48
      go_wp2_with (go_at_call 43; (refine HC'.out.mono ?_); rintro e w' ⟨rfl, hb⟩; have HB := Lib.hid hb; clear hb)
      go_ret2
      exact ⟨⟨.slice none 0 0, ret_of2 rfl (by rw [HE.out]), by rw [HE.out]; exact tab_nil⟩, HB.out⟩
    · have h3 : (t.length : Int) ≤ b := by omega
      go_enter Try.func48, Try.ntmps48
      go_wp2_with (go_at_call 43; (refine HC'.out.mono ?_); rintro e w' ⟨rfl, hb⟩; have HB := Lib.hid hb; clear hb)
      go_ret2
      exact ⟨⟨.slice none 0 0, ret_of2 rfl (by rw [HE.out]), by rw [HE.out]; exact tab_nil⟩, HB.out⟩
  · have HE : Hid (stdE g t b = ([], (check g t).1)) := Lib.hid (by unfold stdE; rw [if_pos h1])
    generalize (check g t).2 = y at *
    have d1 : ((check g t).1 != 0) = true := by simpa using h1
    have HC' : Hid (Calls Try.prog 43 #[.int .i64 g, .slice A t.length c] w fun e w' => (∃ y, e = .returned (.tuple #[.int .i64 (check g t).1, .int .i64 y])) ∧ Below w.heap.size w w') :=
      Lib.hid (HC.out.mono fun e w' ⟨h2, h3⟩ => ⟨⟨_, h2⟩, h3⟩)
    generalize (check g t).1 = x at *
    clear hb HC h1
    go_enter Try.func48, Try.ntmps48
    go_wp2_with (go_at_call 43; (refine HC'.out.mono ?_); rintro e w' ⟨⟨y, rfl⟩, hb⟩; have HB := Lib.hid hb; clear hb)
    go_ret2
    exact ⟨⟨.slice none 0 0, ret_of2 rfl (by rw [HE.out]), by rw [HE.out]; exact tab_nil⟩, HB.out⟩
theorem fits_cos {n : Nat} {l : List Int} (h : Cos n l) (hn : n ≤ 1000000) : Fits l := fun x hx => by
  have := h.bd x hx
  omega
theorem fits_num {l : List Int} {row : List Int} (hl : l.length ≤ 1000000) : Fits (row.map (numOf l)) := fun x hx => by
  obtain ⟨y, -, rfl⟩ := List.mem_map.1 hx
  have := @numOf_bd l y
  omega
theorem StdSt.first {w0 w : World} {bm : Nat} {b : Int} (hB : Below w0.heap.size w0 w) (hbm : w0.heap.size ≤ bm) (hm : MapI w bm [b]) (_hb : I64 b) :
    StdSt bm (fun _ => False) w0 ((w.alloc (.cells #[.int .i64 b] 3)).alloc (.cells #[] 24)) (.slice (some ⟨w.heap.size, 0, none⟩) 1 1) (.slice (some ⟨w.heap.size + 1, 0, none⟩) 0 0) [b] [] := by
  have h1 := hB.size
  have hg : w.grownBy ((w.alloc (.cells #[.int .i64 b] 3)).alloc (.cells #[] 24)) none := (World.grownBy_alloc w _ none).trans (World.grownBy_alloc _ _ none)
  have e1 := allocs_get [.cells #[.int .i64 b] 3, .cells #[] 24] w 0 _ rfl
  have e2 := allocs_get [.cells #[.int .i64 b] 3, .cells #[] 24] w 1 _ rfl
  refine ⟨hB.grown hg h1 (fun k hk => by cases hk), hbm, hm.kept hg (by simp), ⟨rfl, .inr ⟨w.heap.size, 1, #[.int .i64 b], rfl, h1, e1, Nat.le_refl _, by simp [maxLen], rfl, rfl⟩⟩, ⟨[], ⟨rfl, .inr ⟨w.heap.size + 1, 0, #[], rfl, by omega, e2, Nat.le_refl _, by simp, rfl, rfl⟩⟩, RowsF.nil _ _⟩, fun k hk => hk.elim⟩
set_option maxRecDepth 100000 in
set_option maxHeartbeats 2000000 in
theorem std48_goodB (w : World) (v : Value) (g : Nat) (t : Tb) (b : Int) (ht : Tab w v t) (hg : TGood g t) (hb0 : 0 ≤ b) (hb1 : b < t.length) : Calls Try.prog 48 #[.int .i64 g, v, .int .i64 b] w (StdPostB g t b w) := by
  have hck := check_of_good hg
  have HC : Hid (Calls Try.prog 43 #[.int .i64 (g : Int), v] w fun e w' => e = .returned (.tuple #[.int .i64 0, .int .i64 (-1)]) ∧ Below w.heap.size w w') :=
    Lib.hid ((check43_any w v g t ht).mono fun e w' ⟨h2, h3⟩ => by rw [hck] at h2; exact ⟨h2, h3⟩)
  have HE1 : Hid (std t b = none → stdE g t b = ([], 13)) := Lib.hid fun h => by unfold stdE; rw [hck, if_neg (by simp), if_neg (by omega), h]
  have HE2 : Hid (∀ s, std t b = some s → stdE g t b = (s, 0)) := Lib.hid fun s h => by unfold stdE; rw [hck, if_neg (by simp), if_neg (by omega), h]
  obtain ⟨A, c, rfl, hc1, hc2, hc⟩ := ht.open_
  have hn2 := hg.n2
  obtain ⟨bt, ot, rfl, hcell⟩ := hc (by omega)
  have HT := Lib.hid hcell
  have HG := Lib.hid hg
  have hg16 := hg.g16
  have hg16' : (g : Int) ≤ 16 := by omega
  have hg0 : (0 : Int) ≤ (g : Int) := Int.natCast_nonneg _
  have hbI : I64 b := ⟨by omega, by omega⟩
  have HBI := Lib.hid hbI
  have hmm : ∀ w, (Instr.makeMap 134 none).run Try.prog w = .ok (.map (some w.heap.size)) (w.alloc (.map #[] 0)) := fun _ => rfl
  clear hcell hc ht hck hg hbI
  go_enter Try.func48, Try.ntmps48
  go_wp2_with (first
    | (go_at_call 43
       (refine HC.out.mono ?_)
       rintro e w1 ⟨rfl, hb⟩
       have HB := Lib.hid hb
       obtain ⟨w2, hr2, hm2, hgr2⟩ := (MapI.made w1).put HBI.out (by simp) (by simp)
       have HR2 := Lib.hid hr2
       have HM2 := Lib.hid hm2
       have HB2 : Hid (Below w.heap.size w w2) := Lib.hid ((hb.alloc hb.size _).grown hgr2 (by have := hb.size; simp; omega) (fun k hk => by cases hk; exact hb.size))
       have HBM : Hid (w.heap.size ≤ w1.heap.size) := Lib.hid hb.size
       clear hb hr2 hm2 hgr2)
    | ((with_reducible refine wpList_selIns 134 36 37 _ ?_); refine wpList_skip rfl (r_ins 134 (.tmp 36) (.tmp 37) _ rfl rfl rfl rfl HR2.out) ?_))
  have hbx : I64 b := HBI.out
  have hst := StdSt.first HB2.out HBM.out HM2.out HBI.out
  have HST := Lib.hid hst
  clear hst hbx
  go_loopw [11, 12, 13] (fun so su i wr => ∃ k n : Nat, i = .int .i64 k ∧ k ≤ n ∧ k ≤ t.length ∧ Hid (n = (ordTo t b k).length) ∧ (∃ F A c A2 c2, so = .slice A n c ∧ su = .slice A2 k c2 ∧ Hid (StdSt w1.heap.size F w wr so su (ordTo t b k) (outTo (ord t b) t k))) ∧
    Hid (∀ j, j < k → ∀ c, c < (t.row ((ord t b).getD j 0).toNat).length → 0 ≤ (t.row ((ord t b).getD j 0).toNat).getD c 0)) (fun _ _ i _ => t.length - (intOf i).toNat)
  case atStart => exact ⟨0, 1, rfl, by omega, by omega, Lib.hid rfl, ⟨_, _, _, _, _, rfl, rfl, HST⟩, Lib.hid fun j hj => absurd hj (by omega)⟩
  case round =>
    clear HST
    obtain ⟨k, n, rfl, hkn, hkt, HN, ⟨F, A, c', A2, c2, rfl, rfl, HST⟩, HNG⟩ := hrel
    have hk0 : (0 : Int) ≤ (k : Int) := Int.natCast_nonneg _
    by_cases hlt : k < n
    · have hC : Cos t.length (ordTo t b k) := Cos.ordTo HG.out hb0 hb1 k
      have hnl := length_le_of_nodup hC
      have hn3 : n ≤ t.length := by have := HN.out; omega
      have hx := hC.get (k := k) (by have := HN.out; omega)
      obtain ⟨r', hr'⟩ := Int.eq_ofNat_of_zero_le hx.1
      have hr1 : r' < t.length := by omega
      have hrl := HG.out.len r' hr1
      have HRL := Lib.hid hrl
      have hord : (ord t b).getD k 0 = (r' : Int) := by
        rw [show ord t b = ordTo t b t.length from rfl, pre_get (ordTo_mono t b hkt) (by have := HN.out; omega), hr']
      have HORD := Lib.hid hord
      have hstep : ordTo t b (k + 1) = visitTo (t.row r') (t.row r').length (ordTo t b k) := by
        rw [ordTo, if_pos (by have := HN.out; omega), hr']
        simp
      have hpre : visitTo (t.row r') (t.row r').length (ordTo t b k) <+: ord t b := by
        rw [← hstep]
        exact ordTo_mono t b (by have := HN.out; omega)
      have HSTEP := Lib.hid hstep
      have HPRE := Lib.hid hpre
      have HCOS := Lib.hid hC
      obtain ⟨A3, c3, w3, hr3, hS3⟩ := HST.out.start g hg16
      have hoI := hS3.st.ord.ints (fits_cos hC (by omega))
      obtain ⟨A5, c5, e5, he1, he2, he⟩ := hoI.open_
      obtain ⟨rfl, -, rfl⟩ := Value.slice.inj e5
      obtain ⟨b5, o5, rfl, hoc⟩ := he (by have := HN.out; omega)
      have hock := hoc k (by have := HN.out; omega)
      rw [hr'] at hock
      obtain ⟨u, hu, hI⟩ := HT.out r' hr1
      have hu3 := (hS3.st.below.cell (p := ⟨bt, ot + r', none⟩) (World.block_lt_of_cell? w _ hu)).trans hu
      have hI2 : IntsAt w u (t.row r') := hI
      obtain ⟨Au, cu, rfl, hu1, hu2, huc⟩ := hI2.open_
      obtain ⟨bu, ou, rfl, huc'⟩ := huc (by have := HG.out.g1; omega)
      have HUC := Lib.hid huc'
      have HR3 := Lib.hid hr3
      have HS3 := Lib.hid hS3
      have hr0 : (0 : Int) ≤ (r' : Int) := Int.natCast_nonneg _
      have hr2 : (r' : Int) < (t.length : Int) := by omega
      have hkn' : (k : Int) < (n : Int) := by omega
      have HX := Lib.hid hr'
      clear hr3 hS3 hoI e5 he he1 he2 hoc hu hI hI2 huc huc' hrl hord hstep hpre hC hx hr'
      go_wp2_with ((with_reducible refine wpList_sel 50 ?_); refine wpList_val rfl (r_make 24 _ (.tmp 49) rfl rfl rfl HR3.out) ?_)
      go_loopw [11, 14, 59] (fun so sr i wr2 => ∃ j m : Nat, i = .int .i64 j ∧ j ≤ (t.row r').length ∧ Hid (m = (visitTo (t.row r') j (ordTo t b k)).length) ∧
        (∃ A c A3 c3, so = .slice A m c ∧ sr = .slice A3 j c3 ∧ Hid (StdSt2 w1.heap.size F w wr2 so (.slice A2 k c2) sr (visitTo (t.row r') j (ordTo t b k)) (outTo (ord t b) t k) (((t.row r').take j).map (numOf (ord t b))))) ∧
        Hid (∀ c, c < j → 0 ≤ (t.row r').getD c 0)) (fun _ _ i _ => (t.row r').length - (intOf i).toNat)
      case atStart => exact ⟨0, n, rfl, by omega, HN, ⟨_, _, _, _, rfl, rfl, HS3⟩, Lib.hid fun j hj => absurd hj (by omega)⟩
      case round =>
        clear HS3 hock hu3
        obtain ⟨j, m, rfl, hj, HM, ⟨A6, c6, A7, c7, rfl, rfl, HS⟩, HNJ⟩ := hrel
        have hj0 : (0 : Int) ≤ (j : Int) := Int.natCast_nonneg _
        by_cases hjl : j < (t.row r').length
        · have hcs := HUC.out j hjl
          have hcs' := (HS.out.st.below.cell (p := ⟨bu, ou + j, none⟩) (World.block_lt_of_cell? w _ hcs)).trans hcs
          have hbd := HG.out.bd r' hr1 j (by have := HRL.out; omega)
          have hbd' : -1 ≤ (t.row r').getD j 0 ∧ (t.row r').getD j 0 < t.length := hbd
          have HSJ : Hid (visitTo (t.row r') (j + 1) (ordTo t b k) = visit (visitTo (t.row r') j (ordTo t b k)) ((t.row r').getD j 0)) := Lib.hid rfl
          have HXJ := Lib.hid (map_take_succ (f := numOf (ord t b)) hjl)
          have HNT : Hid ((t.row r').getD j 0 < 0 → std t b = none) := Lib.hid fun h => std_neg (neg_true hr1 hjl h)
          have HPJ : Hid (visitTo (t.row r') (j + 1) (ordTo t b k) <+: ord t b) := Lib.hid ((visitTo_mono _ (by omega) _).trans HPRE.out)
          have HCJ : Hid (Cos t.length (visitTo (t.row r') j (ordTo t b k))) := Lib.hid (HCOS.out.visitTo (fun c hc => (HG.out.bd r' hr1 c (by have := HRL.out; omega)).2) (by omega))
          have HNN : Hid (0 ≤ (t.row r').getD j 0 → ∀ c, c < j + 1 → 0 ≤ (t.row r').getD c 0) := Lib.hid fun h => all_succ HNJ.out h
          have hxl : (((t.row r').take j).map (numOf (ord t b))).length = j := by rw [List.length_map, List.length_take]; omega
          have hml := length_le_of_nodup HCJ.out
          clear hcs hbd
          generalize (t.row r').getD j 0 = s at *
          generalize visitTo (t.row r') j (ordTo t b k) = oj at *
          generalize ((t.row r').take j).map (numOf (ord t b)) = xj at *
          have hI : I64 s := ⟨by omega, by omega⟩
          by_cases hs : s < 0
          · have HZ := Lib.hid (HE1.out (HNT.out hs))
            have HBW := Lib.hid HS.out.st.below
            clear hI hxl hml
            go_wp2_with fail
            go_ret2
            exact ⟨⟨.slice none 0 0, ret_of2 rfl (by rw [HZ.out]), by rw [HZ.out]; exact TabB.nil⟩, HBW.out⟩
          · by_cases hin : s ∈ oj
            · have hv : visit oj s = oj := by unfold visit; simp [hin]
              have hsj := HSJ.out
              rw [hv] at hsj
              have hpj := HPJ.out
              rw [hsj] at hpj
              have hnum := idxOf_pre hpj hin
              obtain ⟨c0, hl1⟩ := HS.out.st.map.look_ok hI
              rw [show oj.contains s = true by simpa using hin] at hl1
              have hl2 := HS.out.st.map.look hI hin
              obtain ⟨A8, c8, w8, hr8, hS8⟩ := HS.out.add (numOf oj s) (by have := HRL.out; omega)
              rw [hxl] at hr8 hS8
              rw [← hnum] at hl2 hr8 hS8
              rw [← HXJ.out] at hS8
              have HL1 := Lib.hid hl1
              have HL2 := Lib.hid hl2
              have HR8 := Lib.hid hr8
              have HS8 := Lib.hid hS8
              have HM8 : Hid (m = (visitTo (t.row r') (j + 1) (ordTo t b k)).length) := Lib.hid (by rw [hsj]; exact HM.out)
              rw [← hsj] at HS8
              clear hv hsj hpj hnum hl1 hl2 hr8 hS8 hI hxl hml
              go_wp2_with (first
                | ((with_reducible refine wpList_sel 68 ?_); refine wpList_val rfl (r_look 134 (.tmp 66) (.tmp 67) rfl rfl rfl HL1.out) ?_)
                | ((with_reducible refine wpList_sel 84 ?_); refine wpList_val rfl (r_look 134 (.tmp 82) (.tmp 83) rfl rfl rfl HL2.out) ?_)
                | ((with_reducible refine wpList_sel 86 ?_); refine wpList_val rfl (r_app (.tmp 81) (.tmp 85) 24 rfl rfl rfl HR8.out) ?_))
              go_roundw
              case rel => exact ⟨j + 1, m, by go_num, by omega, HM8, ⟨_, _, _, _, rfl, rfl, HS8⟩, Lib.hid (HNN.out (by omega))⟩
              case measure => simp [intOf]; omega
            · have hv : visit oj s = oj ++ [s] := by unfold visit; simp [hin]; omega
              have hsj := HSJ.out
              rw [hv] at hsj
              have hpj := HPJ.out
              rw [hsj] at hpj
              have hnum := idxOf_pre hpj (x := s) (by simp)
              obtain ⟨c0, hl1⟩ := HS.out.st.map.look_ok hI
              rw [show oj.contains s = false by simpa using hin] at hl1
              obtain ⟨wm, A9, c9, w9, hrm, hr9, hS9⟩ := HS.out.visit hI hin (by omega)
              rw [← HM.out] at hrm hr9 hS9
              have hl2 := hS9.st.map.look hI (by simp)
              obtain ⟨A8, c8, w8, hr8, hS8⟩ := hS9.add (numOf (oj ++ [s]) s) (by have := HRL.out; omega)
              rw [hxl] at hr8 hS8
              rw [← hnum] at hl2 hr8 hS8
              rw [← HXJ.out] at hS8
              have HL1 := Lib.hid hl1
              have HL2 := Lib.hid hl2
              have HR8 := Lib.hid hr8
              have HR9 := Lib.hid hr9
              have HRM := Lib.hid hrm
              have HS8 := Lib.hid hS8
              have HM8 : Hid (m + 1 = (visitTo (t.row r') (j + 1) (ordTo t b k)).length) := Lib.hid (by rw [hsj, List.length_append, HM.out]; rfl)
              rw [← hsj] at HS8
              clear hv hsj hpj hnum hl1 hl2 hr8 hr9 hrm hS8 hS9 hI hxl hml
              go_wp2_with (first
                | ((with_reducible refine wpList_sel 68 ?_); refine wpList_val rfl (r_look 134 (.tmp 66) (.tmp 67) rfl rfl rfl HL1.out) ?_)
                | ((with_reducible refine wpList_selMu 134 73 74 76 ?_); refine wpList_skip rfl (r_mu 134 (.tmp 73) (.tmp 74) (.tmp 76) rfl rfl rfl rfl HRM.out) ?_)
                | ((with_reducible refine wpList_sel 80 ?_); refine wpList_val rfl (r_app (.tmp 77) (.tmp 79) 24 rfl rfl rfl HR9.out) ?_)
                | ((with_reducible refine wpList_sel 84 ?_); refine wpList_val rfl (r_look 134 (.tmp 82) (.tmp 83) rfl rfl rfl HL2.out) ?_)
                | ((with_reducible refine wpList_sel 86 ?_); refine wpList_val rfl (r_app (.tmp 81) (.tmp 85) 24 rfl rfl rfl HR8.out) ?_))
              go_roundw
              case rel => exact ⟨j + 1, m + 1, by go_num, by omega, HM8, ⟨_, _, _, _, rfl, rfl, HS8⟩, Lib.hid (HNN.out (by omega))⟩
              case measure => simp [intOf]; omega
        · obtain rfl : j = (t.row r').length := by omega
          rename World => wy
          have hS := HS.out
          rw [List.take_of_length_le (Nat.le_refl _)] at hS
          have hxl : ((t.row r').map (numOf (ord t b))).length = (t.row r').length := List.length_map _
          have hS' : StdSt2 w1.heap.size F w wy (.slice A6 m c6) (.slice A2 k c2) (.slice A7 ((t.row r').map (numOf (ord t b))).length c7) (visitTo (t.row r') (t.row r').length (ordTo t b k)) (outTo (ord t b) t k) ((t.row r').map (numOf (ord t b))) := by rw [hxl]; exact hS
          have hol : (ord t b).length ≤ 1000000 := by
            have := length_le_of_nodup (Cos.ordTo HG.out hb0 hb1 t.length)
            show (ordTo t b t.length).length ≤ 1000000
            omega
          obtain ⟨A8, c8, w8, hr8, hS8⟩ := hS'.done (fits_num hol) (by rw [length_outTo]; omega)
          rw [length_outTo] at hr8 hS8
          rw [hxl] at hr8
          have he8 : outTo (ord t b) t (k + 1) = outTo (ord t b) t k ++ [(t.row r').map (numOf (ord t b))] := by rw [outTo_succ, HORD.out]; rfl
          rw [← he8, ← HSTEP.out] at hS8
          have HR8 := Lib.hid hr8
          have HS8 := Lib.hid hS8
          have HM8 : Hid (m = (ordTo t b (k + 1)).length) := Lib.hid (by rw [HSTEP.out]; exact HM.out)
          have HNK : Hid (∀ j, j < k + 1 → ∀ c, c < (t.row ((ord t b).getD j 0).toNat).length → 0 ≤ (t.row ((ord t b).getD j 0).toNat).getD c 0) := Lib.hid (all_succ HNG.out (by rw [HORD.out]; exact HNJ.out))
          have hmk : k + 1 ≤ m := by
            have h1 := (visitTo_pre (t.row r') (t.row r').length (ordTo t b k)).length_le
            have h2 := HM.out
            have h3 := HN.out
            omega
          clear hS hS' hxl hol hr8 hS8 he8
          go_wp2_with ((with_reducible refine wpList_sel 91 ?_); refine wpList_val rfl (r_app (.tmp 88) (.tmp 90) 23 rfl rfl rfl HR8.out) ?_)
          go_roundw
          case rel => exact ⟨k + 1, m, by go_num, hmk, by omega, HM8, ⟨_, _, _, _, _, rfl, rfl, HS8⟩, HNK⟩
          case measure => simp [intOf]; omega
    · obtain rfl : k = n := by omega
      have hend : ord t b = ordTo t b k := ord_end (by have := HN.out; omega) hkt
      have HEND := Lib.hid hend
      have HT2 := Lib.hid HST.out.tabB
      have HBW := Lib.hid HST.out.below
      clear hend
      by_cases hkl : k = t.length
      · have d5 : ((k : Int) != (t.length : Int)) = false := by simp [hkl]
        have hs := std_full HG.out hb0 hb1 (by rw [HEND.out, ← HN.out]; exact hkl) (by rw [← hkl]; exact HNG.out)
        have HZ := Lib.hid (HE2.out _ hs)
        have HKL := Lib.hid hkl
        clear hkl hs
        go_wp2_with fail
        go_ret2
        exact ⟨⟨_, ret_of2 rfl (by rw [HZ.out]), by rw [HZ.out, ← HKL.out]; exact HT2.out⟩, HBW.out⟩
      · have d5 : ((k : Int) != (t.length : Int)) = true := by simp; omega
        have HZ := Lib.hid (HE1.out (std_short (by rw [HEND.out, ← HN.out]; exact hkl)))
        clear hkl
        go_wp2_with fail
        go_ret2
        exact ⟨⟨.slice none 0 0, ret_of2 rfl (by rw [HZ.out]), by rw [HZ.out]; exact TabB.nil⟩, HBW.out⟩
theorem std48_good (w : World) (v : Value) (g : Nat) (t : Tb) (b : Int) (ht : Tab w v t) (hg : TGood g t) (hb0 : 0 ≤ b) (hb1 : b < t.length) : Calls Try.prog 48 #[.int .i64 g, v, .int .i64 b] w (StdPost g t b w) :=
  (std48_goodB w v g t b ht hg hb0 hb1).mono fun _ _ ⟨⟨u, h1, h2⟩, h3⟩ => ⟨⟨u, h1, h2.at_⟩, h3⟩
end Go.Proofs
namespace Go.Proofs
open Go.RowKit Go.Shelf Go.Proofs.Ct
def numL (o : List Int) (n : Nat) : List Int := (List.range n).map fun (i : Nat) => if o.contains (i : Int) then numOf o (i : Int) else -1
def fillL (i n : Nat) : List Int := (List.range n).map fun (j : Nat) => if j < i then -1 else 0
theorem length_numL (o : List Int) (n : Nat) : (numL o n).length = n := by simp [numL]
theorem length_fillL (i n : Nat) : (fillL i n).length = n := by simp [fillL]
theorem map_range_set {f g : Nat → Int} {n k : Nat} {v : Int} (hv : g k = v) (ho : ∀ j, j < n → j ≠ k → g j = f j) : ((List.range n).map f).set k v = (List.range n).map g := by
  refine getD_ext (d := 0) (by simp) fun j hj => ?_
  have hj' : j < n := by simpa using hj
  rw [getD_set]
  by_cases e : k = j
  · subst e
    rw [if_pos ⟨rfl, by simpa using hj'⟩]
    simp [List.getD_eq_getElem?_getD, hj', hv]
  · rw [if_neg (fun h => e h.1)]
    simp [List.getD_eq_getElem?_getD, hj', ho j hj' (Ne.symm e)]
theorem fillL_full (n : Nat) : fillL n n = numL [] n := by
  unfold fillL numL
  apply List.map_congr_left
  intro j hj
  simp at hj
  simp [hj]
theorem numL_set {o : List Int} {n s : Nat} (hs : (s : Int) ∉ o) : (numL o n).set s o.length = numL (o ++ [(s : Int)]) n := by
  refine map_range_set ?_ fun j _ hne => ?_
  · rw [if_pos (by simp), numOf_new hs (List.prefix_refl _)]
  · have hne' : (j : Int) ≠ (s : Int) := by omega
    by_cases hm : (j : Int) ∈ o
    · rw [if_pos (by simp [hm]), if_pos (by simpa using hm), idxOf_pre (List.prefix_append _ _) hm]
    · rw [if_neg (by simp [hm, hne']), if_neg (by simpa using hm)]
/-- the numbers in a block, the order in a slice of its own -/
structure NumSt (nb n : Nat) (w0 wr : World) (vo : Value) (o : List Int) : Prop where
  below : Below w0.heap.size w0 wr
  nb0 : w0.heap.size ≤ nb
  num : XsAt wr nb (numL o n)
  ord : OwnI w0.heap.size wr vo o
  ap : vo.ownBlock ≠ some nb
theorem NumSt.visit {nb n : Nat} {w0 wr : World} {vo : Value} {o : List Int} (h : NumSt nb n w0 wr vo o) {s : Nat} (hs : s < n) (hn : (s : Int) ∉ o) (ho : o.length ≤ 100000) :
    ∃ A' c' w', (Builtin.append_ #[24, 24] 24 #[vo, .slice (some ⟨wr.heap.size, 0, none⟩) 1 1]).run Try.prog ((wr.setCell ⟨nb, s, none⟩ (.int .i64 (o.length : Int))).alloc (.cells #[.int .i64 (s : Int)] 3)) = .ok (.slice A' (o.length + 1) c') w' ∧
      NumSt nb n w0 w' (.slice A' (o.length + 1) c') (o ++ [(s : Int)]) := by
  have hg1 := grown_setCell wr nb s (.int .i64 (o.length : Int))
  have hx := h.num.set (k := s) (by rw [length_numL]; exact hs) (o.length : Int)
  rw [numL_set hn] at hx
  have hor : OwnI w0.heap.size (wr.setCell ⟨nb, s, none⟩ (.int .i64 (o.length : Int))) vo o := owns_keep h.ord fun r hr =>
    hg1.block r (owns_lt h.ord hr) (fun e => h.ap (by rw [hr]; exact e))
  have hB1 : Below w0.heap.size w0 (wr.setCell ⟨nb, s, none⟩ (.int .i64 (o.length : Int))) := h.below.grown hg1 h.below.size (fun k hk => by cases hk; exact h.nb0)
  have hsz : (wr.setCell ⟨nb, s, none⟩ (.int .i64 (o.length : Int))).heap.size = wr.heap.size := by simp [World.setCell]
  generalize wr.setCell ⟨nb, s, none⟩ (.int .i64 (o.length : Int)) = W at *
  obtain ⟨A', c', w', hr, ho', hg, hw⟩ := push_int 24 24 Try.underlying24 W w0.heap.size vo o hor (s : Int) (by omega) hB1.size
  rw [hsz] at hr
  refine ⟨A', c', w', hr, hB1.grown hg hB1.size (fun k hk => (owns_block hor k hk).1), h.nb0, hx.grown hg h.ap, ho', fun e => ?_⟩
  rcases hw with hw | ⟨r', hr', hge⟩
  · exact h.ap (hw.symm.trans e)
  · rw [hr'] at e
    have : r' = nb := Option.some.inj e
    have := hx.lt
    omega
theorem made3 (n : Nat) : madeCells (Value.int .i64 0).cells n = Array.replicate n (.int .i64 0) := by
  apply Array.ext_getElem?
  intro k
  simp only [madeCells, Value.cells, Array.getElem?_map, Array.getElem?_range, Array.getElem?_replicate]
  by_cases h : k < n
  · simp [h, Nat.mod_one]
  · simp [h]
theorem NumSt.first {n nb : Nat} {w0 w : World} {b : Nat} (hB : Below w0.heap.size w0 w) (hnb : w0.heap.size ≤ nb) (hx : XsAt w nb (fillL n n)) (hb : b < n) :
    NumSt nb n w0 ((w.alloc (.cells #[.int .i64 (b : Int)] 3)).setCell ⟨nb, b, none⟩ (.int .i64 0)) (.slice (some ⟨w.heap.size, 0, none⟩) 1 1) [(b : Int)] := by
  have h1 := hB.size
  have h2 := hx.lt
  have hal : Below w.heap.size w (w.alloc (.cells #[.int .i64 (b : Int)] 3)) := (Below.refl _ _).alloc (Nat.le_refl _) _
  have hg := grown_setCell (w.alloc (.cells #[.int .i64 (b : Int)] 3)) nb b (.int .i64 0)
  have hx2 := (hx.below hal).set (k := b) (by rw [length_fillL]; exact hb) 0
  rw [fillL_full] at hx2
  have hx3 := numL_set (o := []) (n := n) (s := b) (by simp)
  simp only [List.length_nil, List.nil_append] at hx3
  rw [show ((0 : Nat) : Int) = 0 from rfl] at hx3
  rw [hx3] at hx2
  refine ⟨(hB.trans (hal.mono h1)).grown hg (by have := hal.size; omega) (fun k hk => by cases hk; exact hnb), hnb, hx2, ⟨rfl, .inr ⟨w.heap.size, 1, #[.int .i64 (b : Int)], rfl, h1, ?_, Nat.le_refl _, by simp [maxLen], rfl, rfl⟩⟩, fun e => ?_⟩
  · refine (hg.block w.heap.size (by simp) (fun e => ?_)).trans (heap_alloc_new w _)
    have : w.heap.size = nb := Option.some.inj e
    omega
  · have : w.heap.size = nb := Option.some.inj e
    omega
theorem TabB.mono {B B' : Nat} {w : World} {u : Value} {xs : List (List Int)} (h : TabB B w u xs) (hB : B' ≤ B) : TabB B' w u xs := fun w' hw => h w' fun k h1 h2 => hw k (Nat.le_trans hB h1) h2
theorem OutSt.tabB {e : TypeId} {F : Nat → Prop} {w0 wr : World} {vout : Value} {rows : List (List Int)} (h : OutSt e F w0 wr vout rows) : TabB w0.heap.size wr vout rows := fun w' hw => by
  have hub := h.out.block
  exact (h.out.keep (G := F) (fun r hr => hw r (hub r hr).1 (by obtain ⟨-, C, hC⟩ := hub r hr; exact (Array.getElem?_eq_some_iff.1 hC).1)) (fun k hk => hw k (h.fs k hk).1 (h.fs k hk).2.1) (fun _ h => h)).tab
end Go.Proofs
