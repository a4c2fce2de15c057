/- The contracts of cayleyref18.Same and of the law's equal. -/
import Derived.Test.YtnhoiompdjabbaaNrm
namespace Go.Proofs
open Go.RowKit Go.Proofs.Pc

theorem getD_ext {α : Type} {d : α} {A B : List α} (hl : A.length = B.length) (h : ∀ k, k < A.length → A.getD k d = B.getD k d) : A = B := by
  apply List.ext_getElem hl
  intro i h1 h2
  have := h i h1
  simpa [List.getD_eq_getElem?_getD, h1, h2] using this
theorem getD_ne {α : Type} {d : α} {A B : List α} {k : Nat} (h : A.getD k d ≠ B.getD k d) : A ≠ B := fun e => h (by rw [e])
theorem ex_drewN {w : World} {n m : Nat} : ∃ q, (w.drewN n).drewN m = w.drewN q := ⟨_, World.drewN_drewN _ _ _⟩
theorem all_succ {p : Nat → Prop} {k : Nat} (h : ∀ j, j < k → p j) (hk : p k) : ∀ j, j < k + 1 → p j := fun j hj => by
  rcases Nat.lt_or_ge j k with h1 | h1
  · exact h j h1
  · obtain rfl : j = k := by omega
    exact hk

set_option maxRecDepth 100000 in
set_option maxHeartbeats 400000 in
theorem same18_any (w : World) (va vb : Value) (A B : List (List Int)) (ha : Tab w va A) (hb : Tab w vb B) :
    Calls Try.prog 55 #[va, vb] w fun e w' => e = .returned (.bool (decide (A = B))) ∧ ∃ q, w' = w.drewN q := by
  obtain ⟨A0, ca, rfl, ha1, ha2, ha3⟩ := ha.open_
  obtain ⟨B0, cb, rfl, hb1, hb2, hb3⟩ := hb.open_
  have HA := Lib.hid ha3
  have HB := Lib.hid hb3
  clear ha hb ha3 hb3
  by_cases hl : A.length = B.length
  · have d1 : ((A.length : Int) != (B.length : Int)) = false := by simp; omega
    have d2 : (A.length != B.length) = false := by simp; omega
    have HL := Lib.hid hl
    clear hl
    go_enter Try.func55, Try.ntmps55
    go_wp2_with fail
    go_loopw [5] (fun i wr => ∃ k : Nat, k ≤ A.length ∧ i = .int .i64 k ∧ (∀ j, j < k → A.getD j [] = B.getD j []) ∧ ∃ q, wr = w.drewN q) (fun i _ => A.length - (intOf i).toNat)
    case atStart => exact ⟨0, Nat.zero_le _, rfl, fun j hj => absurd hj (by omega), 0, rfl⟩
    case round =>
      obtain ⟨k, hk, rfl, hz, q, rfl⟩ := hrel
      have HZ := Lib.hid hz
      clear hz
      by_cases hlt : k < A.length
      · obtain ⟨b1, o1, rfl, hc1⟩ := HA.out (by omega)
        obtain ⟨b2, o2, rfl, hc2⟩ := HB.out (by rw [← HL.out]; omega)
        obtain ⟨u1, hu1, hr1⟩ := hc1 k hlt
        obtain ⟨u2, hu2, hr2⟩ := hc2 k (by rw [← HL.out]; omega)
        obtain ⟨A3, c3, rfl, hd1, hd2, hd⟩ := hr1.open_
        obtain ⟨A4, c4, rfl, he1, he2, he⟩ := hr2.open_
        have hk0 : (0 : Int) ≤ (k : Int) := Int.natCast_nonneg _
        have hkb : (k : Int) < (B.length : Int) := by rw [← HL.out]; omega
        have hka : (k : Int) < (A.length : Int) := by omega
        have HN := Lib.hid (fun h => getD_ne (A := A) (B := B) (d := []) (k := k) h)
        generalize hxe : A.getD k [] = x at *
        generalize hye : B.getD k [] = y at *
        have HXE := Lib.hid hxe
        have HYE := Lib.hid hye
        clear hxe hye
        have HD := Lib.hid hd
        have HE := Lib.hid he
        clear hc1 hc2 hr1 hr2 hd he
        by_cases hxy : x.length = y.length
        · have d3 : ((x.length : Int) != (y.length : Int)) = false := by simp; omega
          have d4 : (x.length != y.length) = false := by simp; omega
          have HX := Lib.hid hxy
          clear hxy
          go_wp2_with fail
          go_quiet (fail)
          go_wp2_with fail
          go_loopw [6] (fun i wr => ∃ j : Nat, j ≤ x.length ∧ i = .int .i64 j ∧ (∀ t, t < j → x.getD t 0 = y.getD t 0) ∧ ∃ q, wr = w.drewN q) (fun i _ => x.length - (intOf i).toNat)
          case atStart => exact ⟨0, Nat.zero_le _, rfl, fun j hj => absurd hj (by omega), (by first | exact ⟨_, rfl⟩ | exact ex_drewN)⟩
          case round =>
            obtain ⟨j, hj, rfl, hzj, qj, rfl⟩ := hrel
            have HZJ := Lib.hid hzj
            clear hzj
            by_cases hjl : j < x.length
            · obtain ⟨b3, o3, rfl, hx⟩ := HD.out (by omega)
              obtain ⟨b4, o4, rfl, hy⟩ := HE.out (by rw [← HX.out]; omega)
              have hx1 := hx j hjl
              have hy1 := hy j (by rw [← HX.out]; omega)
              have hj0 : (0 : Int) ≤ (j : Int) := Int.natCast_nonneg _
              have hjb : (j : Int) < (y.length : Int) := by rw [← HX.out]; omega
              have hja : (j : Int) < (x.length : Int) := by omega
              have HM := Lib.hid (fun h => getD_ne (A := x) (B := y) (d := 0) (k := j) h)
              clear hx hy
              generalize hse : x.getD j 0 = s at *
              generalize hte : y.getD j 0 = t at *
              have HSE := Lib.hid hse
              have HTE := Lib.hid hte
              clear hse hte
              by_cases hst : s = t
              · have d5 : (s != t) = false := by simpa using hst
                have HS := Lib.hid hst
                clear hst
                go_wp2_with fail
                go_quiet (fail)
                go_wp2_with fail
                go_roundw
                case rel => exact ⟨j + 1, by omega, by go_num, all_succ HZJ.out (by rw [HSE.out, HTE.out]; exact HS.out), (by first | exact ⟨_, rfl⟩ | exact ex_drewN)⟩
                case measure => simp [intOf]; omega
              · have d5 : (s != t) = true := by simpa using hst
                have HS := Lib.hid hst
                clear hst
                go_wp2_with fail
                go_quiet (fail)
                go_wp2_with fail
                go_ret
                exact ⟨ret_bool (by simpa using HN.out (HM.out HS.out)), (by first | exact ⟨_, rfl⟩ | exact ex_drewN)⟩
            · obtain rfl : j = x.length := by omega
              go_wp2_with fail
              go_roundw
              case rel => exact ⟨k + 1, by omega, by go_num, all_succ HZ.out (by rw [HXE.out, HYE.out]; exact getD_ext HX.out HZJ.out), _, rfl⟩
              case measure => simp [intOf]; omega
        · have d3 : ((x.length : Int) != (y.length : Int)) = true := by simp; omega
          have d4 : (x.length != y.length) = true := by simp; omega
          have HX := Lib.hid hxy
          clear hxy
          go_wp2_with fail
          go_quiet (fail)
          go_wp2_with fail
          go_ret
          exact ⟨ret_bool (by simpa using HN.out (fun e => HX.out (by rw [e]))), (by first | exact ⟨_, rfl⟩ | exact ex_drewN)⟩
      · obtain rfl : k = A.length := by omega
        go_wp2_with fail
        go_ret
        exact ⟨ret_bool (by simpa using getD_ext HL.out HZ.out), _, rfl⟩
  · have d1 : ((A.length : Int) != (B.length : Int)) = true := by simp; omega
    have d2 : (A.length != B.length) = true := by simp; omega
    have HL := Lib.hid hl
    clear hl
    go_enter Try.func55, Try.ntmps55
    go_wp2_with fail
    go_ret
    exact ⟨ret_bool (by simpa using fun e => HL.out (by rw [e])), 0, rfl⟩

theorem tab_one (w : World) (v : Value) (xs : List Int) (h : IntsAt w v xs) : Tab (w.alloc (.cells #[v] 22)) (.slice (some ⟨w.heap.size, 0, none⟩) 1 1) [xs] := by
  refine ⟨[v], ⟨_, 1, 1, rfl, rfl, Nat.le_refl _, by simp [maxLen], fun _ => ⟨w.heap.size, 0, rfl, fun j u hu => ?_⟩⟩, rfl, fun i hi => ?_⟩
  · have : j = 0 := by
      rcases j with _ | j
      · rfl
      · simp at hu
    subst this
    simp at hu
    subst hu
    have := heap_alloc_new w (.cells #[v] 22)
    unfold World.cell?
    rw [this]
    rfl
  · have : i = 0 := by simpa using hi
    subst this
    exact ⟨v, rfl, h.below ((Below.refl _ _).alloc (Nat.le_refl _) _)⟩

set_option maxRecDepth 100000 in
set_option maxHeartbeats 400000 in
theorem equal_any (w : World) (va vb : Value) (xs ys : List Int) (ha : IntsAt w va xs) (hb : IntsAt w vb ys) :
    Calls Try.prog 31 #[va, vb] w fun e w' => e = .returned (.bool (decide (xs = ys))) ∧ Below w.heap.size w w' := by
  obtain ⟨A, ca, rfl, -⟩ := ha.open_
  obtain ⟨B, cb, rfl, -⟩ := hb.open_
  have hb1 : Below w.heap.size w (w.alloc (.cells #[.slice A xs.length ca] 22)) := (Below.refl _ _).alloc (Nat.le_refl _) _
  have hb2 : Below w.heap.size w ((w.alloc (.cells #[.slice A xs.length ca] 22)).alloc (.cells #[.slice B ys.length cb] 22)) := hb1.alloc (by simp) _
  have h1 := tab_one w _ xs ha
  have h2 := tab_one (w.alloc (.cells #[.slice A xs.length ca] 22)) _ ys (hb.below hb1)
  have h1' : Tab ((w.alloc (.cells #[.slice A xs.length ca] 22)).alloc (.cells #[.slice B ys.length cb] 22)) (.slice (some ⟨w.heap.size, 0, none⟩) 1 1) [xs] := kept_tab.below h1 ((Below.refl _ _).alloc (Nat.le_refl _) _)
  rw [World.size_alloc] at h2
  have HC := Lib.hid (same18_any _ _ _ [xs] [ys] h1' h2)
  have HB := Lib.hid hb2
  clear h1 h2 h1' hb1 hb2 ha hb
  go_enter Try.func31, Try.ntmps31
  go_wp2_with (first | (go_at_call 55; (with_reducible refine HC.out.mono ?_); rintro e w' ⟨rfl, q, rfl⟩))
  go_ret
  exact ⟨ret_bool (by simp), below_drewN HB.out _⟩
end Go.Proofs
