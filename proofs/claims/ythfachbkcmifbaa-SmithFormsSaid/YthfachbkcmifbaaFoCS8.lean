/- The law's helpers: Same, SameLists, row, is, lives; Diagonal forms, plainly: the chapter's examples; is and lives: examples of the chapter; Matrices that grow by rows; Pick, Take, drawn; drawn: the matrix that numbers select; shape and mul. -/
import Derived.Test.YthfachbkcmifbaaFoCS7
import Derived.Test.YthfachbkcmifbaaFoCS2
namespace Go.Proofs
open Go.RowKit Go.Shelf Go.Proofs.Sm
set_option maxRecDepth 100000 in
set_option maxHeartbeats 400000 in
theorem same17_any (w : World) (va vb : Value) (x y : List Int) (ha : IntsAt w va x) (hb : IntsAt w vb y) :
    Calls Try.prog 17 #[va, vb] w fun e w' => e = .returned (.bool (decide (x = y))) ∧ ∃ q, w' = w.drewN q := by
  obtain ⟨A3, c3, rfl, hd1, hd2, hd⟩ := ha.open_
  obtain ⟨A4, c4, rfl, he1, he2, he⟩ := hb.open_
  have HD := Lib.hid hd
  have HE := Lib.hid he
  clear ha hb hd he
  have HN := Lib.hid (fun (h : x.length ≠ y.length) (e : x = y) => h (by rw [e]))
  by_cases hxy : x.length = y.length
  · have d3 : ((x.length : Int) != (y.length : Int)) = false := by simp; omega
    have d4 : (x.length != y.length) = false := by simp; omega
    have HX := Lib.hid hxy
    clear hxy
    go_enter Try.func17, Try.ntmps17
    go_wp2_with fail
    go_loopw [5] (fun i wr => ∃ j : Nat, j ≤ x.length ∧ i = .int .i64 j ∧ (∀ t, t < j → x.getD t 0 = y.getD t 0) ∧ ∃ q, wr = w.drewN q) (fun i _ => x.length - (intOf i).toNat)
    case atStart => exact ⟨0, Nat.zero_le _, rfl, fun j hj => absurd hj (by omega), 0, rfl⟩
    case round =>
      obtain ⟨j, hj, rfl, hzj, qj, rfl⟩ := hrel
      have HZJ := Lib.hid hzj
      clear hzj
      by_cases hjl : j < x.length
      · obtain ⟨b3, o3, rfl, hx⟩ := HD.out (by omega)
        obtain ⟨b4, o4, rfl, hy⟩ := HE.out (by rw [← HX.out]; omega)
        have hx1 := hx j hjl
        have hy1 := hy j (by rw [← HX.out]; omega)
        have hj0 : (0 : Int) ≤ (j : Int) := Int.natCast_nonneg _
        have hjb : (j : Int) < (y.length : Int) := by rw [← HX.out]; omega
        have hja : (j : Int) < (x.length : Int) := by omega
        have HM := Lib.hid (fun h => getD_ne (A := x) (B := y) (d := 0) (k := j) h)
        clear hx hy
        generalize hse : x.getD j 0 = s at *
        generalize hte : y.getD j 0 = t at *
        have HSE := Lib.hid hse
        have HTE := Lib.hid hte
        clear hse hte
        by_cases hst : s = t
        · have d5 : (s != t) = false := by simpa using hst
          have HS := Lib.hid hst
          clear hst
          go_wp2_with fail
          go_quiet (fail)
          go_wp2_with fail
          go_roundw
          case rel => exact ⟨j + 1, by omega, by go_num, all_succ HZJ.out (by rw [HSE.out, HTE.out]; exact HS.out), (by first | exact ⟨_, rfl⟩ | exact ex_drewN)⟩
          case measure => simp [intOf]; omega
        · have d5 : (s != t) = true := by simpa using hst
          have HS := Lib.hid hst
          clear hst
          go_wp2_with fail
          go_quiet (fail)
          go_wp2_with fail
          go_ret
          exact ⟨ret_bool (by simpa using HM.out HS.out), (by first | exact ⟨_, rfl⟩ | exact ex_drewN)⟩
      · obtain rfl : j = x.length := by omega
        go_wp2_with fail
        go_ret
        exact ⟨ret_bool (by simpa using getD_ext HX.out HZJ.out), (by first | exact ⟨_, rfl⟩ | exact ex_drewN)⟩
  · have d3 : ((x.length : Int) != (y.length : Int)) = true := by simp; omega
    have d4 : (x.length != y.length) = true := by simp; omega
    have HX := Lib.hid hxy
    clear hxy
    go_enter Try.func17, Try.ntmps17
    go_wp2_with fail
    go_ret
    exact ⟨ret_bool (by simpa using HN.out HX.out), 0, rfl⟩
theorem quiet_more {P : Program} {f : FuncId} {args : Array Value} {w : World} {a n : Nat} {v : Value}
    (h : Calls P f args (w.drewN (a + n)) fun e w' => e = .returned v ∧ ∃ q, w' = (w.drewN (a + n)).drewN q) :
    Calls P f args (w.drewN (a + n)) fun e w'' => e = .returned v ∧ ∃ m, w'' = w.drewN (a + m) :=
  h.mono fun _ _ ⟨he, q, hq⟩ => ⟨he, n + q, by rw [hq, World.drewN_drewN, Nat.add_assoc]⟩
theorem quiet_more0 {P : Program} {f : FuncId} {args : Array Value} {w : World} {n : Nat} {v : Value}
    (h : Calls P f args (w.drewN n) fun e w' => e = .returned v ∧ ∃ q, w' = (w.drewN n).drewN q) :
    Calls P f args (w.drewN n) fun e w'' => e = .returned v ∧ ∃ m, w'' = w.drewN m :=
  h.mono fun _ _ ⟨he, q, hq⟩ => ⟨he, n + q, by rw [hq, World.drewN_drewN]⟩
set_option maxRecDepth 100000 in
set_option maxHeartbeats 400000 in
theorem sameLists18_any (w : World) (va vb : Value) (A B : List (List Int)) (ha : Tab w va A) (hb : Tab w vb B) :
    Calls Try.prog 18 #[va, vb] w fun e w' => e = .returned (.bool (decide (A = B))) ∧ ∃ q, w' = w.drewN q := by
  obtain ⟨A0, ca, rfl, ha1, ha2, ha3⟩ := ha.open_
  obtain ⟨B0, cb, rfl, hb1, hb2, hb3⟩ := hb.open_
  have HA := Lib.hid ha3
  have HB := Lib.hid hb3
  clear ha hb ha3 hb3
  by_cases hl : A.length = B.length
  · have d1 : ((A.length : Int) != (B.length : Int)) = false := by simp; omega
    have d2 : (A.length != B.length) = false := by simp; omega
    have HL := Lib.hid hl
    clear hl
    go_enter Try.func18, Try.ntmps18
    go_wp2_with fail
    go_loopw [5] (fun i wr => ∃ k : Nat, k ≤ A.length ∧ i = .int .i64 k ∧ (∀ j, j < k → A.getD j [] = B.getD j []) ∧ ∃ q, wr = w.drewN q) (fun i _ => A.length - (intOf i).toNat)
    case atStart => exact ⟨0, Nat.zero_le _, rfl, fun j hj => absurd hj (by omega), 0, rfl⟩
    case round =>
      obtain ⟨k, hk, rfl, hz, q, rfl⟩ := hrel
      have HZ := Lib.hid hz
      clear hz
      by_cases hlt : k < A.length
      · obtain ⟨b1, o1, rfl, hc1⟩ := HA.out (by omega)
        obtain ⟨b2, o2, rfl, hc2⟩ := HB.out (by rw [← HL.out]; omega)
        obtain ⟨u1, hu1, hr1⟩ := hc1 k hlt
        obtain ⟨u2, hu2, hr2⟩ := hc2 k (by rw [← HL.out]; omega)
        obtain ⟨A3, c3, rfl, -, -, -⟩ := id hr1.open_
        obtain ⟨A4, c4, rfl, -, -, -⟩ := id hr2.open_
        have hk0 : (0 : Int) ≤ (k : Int) := Int.natCast_nonneg _
        have hkb : (k : Int) < (B.length : Int) := by rw [← HL.out]; omega
        have hka : (k : Int) < (A.length : Int) := by omega
        have HN := Lib.hid (fun h => getD_ne (A := A) (B := B) (d := []) (k := k) h)
        have HSM : Hid (∀ q, Calls Try.prog 17 #[.slice A3 (A.getD k []).length c3, .slice A4 (B.getD k []).length c4] (w.drewN q) fun e w' => e = .returned (.bool (decide (A.getD k [] = B.getD k []))) ∧ ∃ q', w' = (w.drewN q).drewN q') := Lib.hid fun q => same17_any (w.drewN q) _ _ _ _ (hr1.drewN q) (hr2.drewN q)
        generalize hxe : A.getD k [] = x at *
        generalize hye : B.getD k [] = y at *
        have HXE := Lib.hid hxe
        have HYE := Lib.hid hye
        clear hxe hye hc1 hc2 hr1 hr2
        by_cases hxy : x = y
        · have hd : decide (x = y) = true := decide_eq_true hxy
          rw [hd] at HSM
          have HXY := Lib.hid hxy
          clear hxy hd
          generalize x.length = lx at *
          generalize y.length = ly at *
          go_wp2_with fail
          go_quiet ((go_at_call 17; first | exact quiet_more (HSM.out _) | exact quiet_more0 (HSM.out _)))
          go_wp2_with fail
          go_roundw
          case rel => exact ⟨k + 1, by omega, by go_num, all_succ HZ.out (by rw [HXE.out, HYE.out]; exact HXY.out), (by first | exact ⟨_, rfl⟩ | exact ex_drewN)⟩
          case measure => simp [intOf]; omega
        · have hd : decide (x = y) = false := decide_eq_false hxy
          rw [hd] at HSM
          have HXY := Lib.hid hxy
          clear hxy hd
          generalize x.length = lx at *
          generalize y.length = ly at *
          go_wp2_with fail
          go_quiet ((go_at_call 17; first | exact quiet_more (HSM.out _) | exact quiet_more0 (HSM.out _)))
          go_wp2_with fail
          go_ret
          exact ⟨ret_bool (by simpa using HN.out HXY.out), (by first | exact ⟨_, rfl⟩ | exact ex_drewN)⟩
      · obtain rfl : k = A.length := by omega
        go_wp2_with fail
        go_ret
        exact ⟨ret_bool (by simpa using getD_ext HL.out HZ.out), _, rfl⟩
  · have d1 : ((A.length : Int) != (B.length : Int)) = true := by simp; omega
    have d2 : (A.length != B.length) = true := by simp; omega
    have HL := Lib.hid hl
    clear hl
    go_enter Try.func18, Try.ntmps18
    go_wp2_with fail
    go_ret
    exact ⟨ret_bool (by simpa using fun e => HL.out (by rw [e])), 0, rfl⟩
theorem row32_any (w : World) (A : Option Addr) (n c : Nat) : Calls Try.prog 32 #[.slice A n c] w fun e w' => e = .returned (.slice A n c) ∧ w = w' := by
  go_enter Try.func32, Try.ntmps32
  go_wp2_with fail
  go_ret
  exact ⟨rfl, rfl⟩
end Go.Proofs
namespace Go.Proofs.Sm
theorem out_two : Out 2 [[2, 4], [6, 8]] (some ⟨[[2, 0], [0, 4]], [[1, 0], [3, -1]], [[1, -2], [0, 1]], 2⟩) := ⟨20, by rfl⟩
theorem out_six : Out 2 [[6, 0], [0, 4]] (some ⟨[[2, 0], [0, 12]], [[1, 1], [2, 3]], [[1, -2], [-1, 3]], 2⟩) := ⟨20, by rfl⟩
end Go.Proofs.Sm
namespace Go.Proofs
open Go.RowKit Go.Shelf Go.Proofs.Sm
theorem is30_true (w : World) (va vb : Value) (x : List Int) (free : Int) (ha : IntsAt w va x) (hb : IntsAt w vb x) :
    Calls Try.prog 30 #[va, .int .i64 free, .int .i64 0, .int .i64 free, vb] w fun e w' => e = .returned (.bool true) ∧ ∃ q, w' = w.drewN q := by
  have hs := same17_any w va vb x x ha hb
  rw [decide_eq_true rfl] at hs
  have HS := Lib.hid hs
  have hd : (free == free) = true := by simp
  obtain ⟨A3, c3, rfl, -, -, -⟩ := ha.open_
  obtain ⟨A4, c4, rfl, -, -, -⟩ := hb.open_
  clear ha hb hs
  generalize x.length = lx at *
  go_enter Try.func30, Try.ntmps30
  go_wp2_with (go_at_call 17; (refine HS.out.mono ?_); rintro e w' ⟨rfl, q, rfl⟩)
  go_ret
  exact ⟨rfl, _, rfl⟩
/-- two numbers in a block just laid -/
theorem ints_two {w : World} {B : Nat} {a b : Int} (h : w.heap[B]? = some (.cells #[.int .i64 a, .int .i64 b] 3 (0, 0))) (ha : In64 a) (hb : In64 b) : IntsAt w (.slice (some ⟨B, 0, none⟩) 2 2) [a, b] := by
  refine ⟨⟨_, 2, 2, rfl, rfl, Nat.le_refl _, by simp [maxLen], fun _ => ⟨B, 0, rfl, fun j v hv => ?_⟩⟩, fun z hz => ?_⟩
  · rw [cell_of_row _ _ _ _ _ _ h, Nat.zero_add, ← hv]
    have : j = 0 ∨ j = 1 := by
      have := (List.getElem?_eq_some_iff.1 hv).1
      simp [ints] at this; omega
    rcases this with rfl | rfl <;> rfl
  · rcases List.mem_cons.1 hz with rfl | hz
    · exact ha
    · rcases List.mem_cons.1 hz with rfl | hz
      · exact hb
      · cases hz
/-- two rows in a block just laid -/
theorem tab_two {w : World} {B : Nat} {u v : Value} {x y : List Int} (h : w.heap[B]? = some (.cells #[u, v] 25 (0, 0))) (hu : IntsAt w u x) (hv : IntsAt w v y) : Tab w (.slice (some ⟨B, 0, none⟩) 2 2) [x, y] := by
  refine ⟨[u, v], ⟨_, 2, 2, rfl, rfl, Nat.le_refl _, by simp [maxLen], fun _ => ⟨B, 0, rfl, fun j z hz => ?_⟩⟩, rfl, fun i hi => ?_⟩
  · rw [cell_of_row _ _ _ _ _ _ h, Nat.zero_add]
    simpa using hz
  · have : i = 0 ∨ i = 1 := by simp at hi; omega
    rcases this with rfl | rfl
    · exact ⟨u, rfl, hu⟩
    · exact ⟨v, rfl, hv⟩
/-- a literal of two rows of two numbers -/
def lit22 (w : World) (a b c e : Int) : World := ((w.alloc (.cells #[.int .i64 a, .int .i64 b] 3)).alloc (.cells #[.int .i64 c, .int .i64 e] 3)).alloc (.cells #[.slice (some ⟨w.heap.size, 0, none⟩) 2 2, .slice (some ⟨w.heap.size + 1, 0, none⟩) 2 2] 25)
theorem lit22_below (w : World) (a b c e : Int) : Below w.heap.size w (lit22 w a b c e) := (((Below.refl _ _).alloc (Nat.le_refl _) _).alloc (by simp) _).alloc (by simp; omega) _
theorem lit22_tab (w : World) {a b c e : Int} (ha : In64 a) (hb : In64 b) (hc : In64 c) (he : In64 e) : Tab (lit22 w a b c e) (.slice (some ⟨w.heap.size + 1 + 1, 0, none⟩) 2 2) [[a, b], [c, e]] := by
  have h0 := heap_alloc_new w (.cells #[.int .i64 a, .int .i64 b] 3)
  have h1 := heap_alloc_new (w.alloc (.cells #[.int .i64 a, .int .i64 b] 3)) (.cells #[.int .i64 c, .int .i64 e] 3)
  rw [World.size_alloc] at h1
  have k1 := (Below.refl (w.alloc (.cells #[.int .i64 a, .int .i64 b] 3)).heap.size (w.alloc (.cells #[.int .i64 a, .int .i64 b] 3))).alloc (Nat.le_refl _) (.cells #[.int .i64 c, .int .i64 e] 3)
  have k2 := (Below.refl ((w.alloc (.cells #[.int .i64 a, .int .i64 b] 3)).alloc (.cells #[.int .i64 c, .int .i64 e] 3)).heap.size ((w.alloc (.cells #[.int .i64 a, .int .i64 b] 3)).alloc (.cells #[.int .i64 c, .int .i64 e] 3))).alloc (Nat.le_refl _) (.cells #[.slice (some ⟨w.heap.size, 0, none⟩) 2 2, .slice (some ⟨w.heap.size + 1, 0, none⟩) 2 2] 25)
  have h2 := heap_alloc_new ((w.alloc (.cells #[.int .i64 a, .int .i64 b] 3)).alloc (.cells #[.int .i64 c, .int .i64 e] 3)) (.cells #[.slice (some ⟨w.heap.size, 0, none⟩) 2 2, .slice (some ⟨w.heap.size + 1, 0, none⟩) 2 2] 25)
  rw [World.size_alloc, World.size_alloc] at h2
  rw [World.size_alloc] at k1
  rw [World.size_alloc, World.size_alloc] at k2
  exact tab_two h2 (ints_two ((k2.block _ (by omega)).trans ((k1.block _ (by omega)).trans h0)) ha hb) (ints_two ((k2.block _ (by omega)).trans h1) hc he)
theorem smE_two : SmE 2 [[2, 4], [6, 8]] [2, 4] [[1, 0], [3, -1]] [[1, -2], [0, 1]] 0 := .inr ⟨by decide, .inr ⟨_, out_two, rfl, rfl, rfl, rfl⟩⟩
theorem grE_six : GrE 2 [[6, 0], [0, 4]] [2, 12] 0 0 := ⟨[2, 12], _, _, 0, .inr ⟨by decide, .inr ⟨_, out_six, rfl, rfl, rfl, rfl⟩⟩, .inr ⟨rfl, rfl, rfl, rfl⟩⟩
theorem in64_small {x : Int} (h : -1000 ≤ x ∧ x ≤ 1000) : In64 x := by unfold In64; omega
set_option maxRecDepth 100000 in
set_option maxHeartbeats 1000000 in
theorem lives9_any (w : World) : Calls Try.prog 9 #[] w fun e w' => e = .returned (.bool true) ∧ Below w.heap.size w w' := by
  have HS := Lib.hid (smith11_any (lit22 w 2 4 6 8) 2 _ _ (lit22_tab w (in64_small (by omega)) (in64_small (by omega)) (in64_small (by omega)) (in64_small (by omega))) smE_two)
  have HG : Hid (∀ W, Calls Try.prog 13 #[.int .i64 2, .slice (some ⟨W.heap.size + 1 + 1, 0, none⟩) 2 2] (lit22 W 6 0 0 4) (GroupPost [2, 12] 0 0 (lit22 W 6 0 0 4))) := Lib.hid fun W => group13_any (lit22 W 6 0 0 4) 2 _ _ (lit22_tab W (in64_small (by omega)) (in64_small (by omega)) (in64_small (by omega)) (in64_small (by omega))) grE_six
  have HR := Lib.hid row32_any
  have HB0 := Lib.hid (lit22_below w 2 4 6 8)
  unfold lit22 at HS HG
  go_enter Try.func9, Try.ntmps9
  go_wp2_with (first
    | (go_at_call 11; (refine HS.out.mono ?_); rintro e w1 ⟨⟨vd, vu, vv, rfl, hd, hu, hv⟩, hb⟩
       obtain ⟨Ad, cd, rfl, -, -, -⟩ := id hd.open_
       obtain ⟨Au, cu, rfl, -, -, -⟩ := LAt.open_ hu
       obtain ⟨Av, cv, rfl, -, -, -⟩ := LAt.open_ hv
       have HB1 := Lib.hid (HB0.out.trans (hb.mono HB0.out.size))
       have H17 : Hid (∀ W, Below w1.heap.size w1 W → Calls Try.prog 17 #[.slice Ad 2 cd, .slice (some ⟨W.heap.size, 0, none⟩) 2 2] (W.alloc (.cells #[.int .i64 2, .int .i64 4] 3)) fun e w' => e = .returned (.bool true) ∧ Below W.heap.size W w') := Lib.hid fun W hW =>
         (same17_any (W.alloc (.cells #[.int .i64 2, .int .i64 4] 3)) _ _ [2, 4] [2, 4] (kept_ints.below hd (hW.alloc hW.size _)) (ints_two (heap_alloc_new W _) (in64_small (by omega)) (in64_small (by omega)))).mono fun e w' ⟨h1, q, h2⟩ => ⟨h1, by rw [h2]; exact below_drewN ((Below.refl _ _).alloc (Nat.le_refl _) _) q⟩
       have H18u : Hid (∀ W, Below w1.heap.size w1 W → Calls Try.prog 18 #[.slice Au 2 cu, .slice (some ⟨W.heap.size + 1 + 1, 0, none⟩) 2 2] (lit22 W 1 0 3 (-1)) fun e w' => e = .returned (.bool true) ∧ Below W.heap.size W w') := Lib.hid fun W hW =>
         (sameLists18_any (lit22 W 1 0 3 (-1)) _ _ [[1, 0], [3, -1]] [[1, 0], [3, -1]] (kept_tab.below hu (hW.trans ((lit22_below W 1 0 3 (-1)).mono hW.size))) (lit22_tab W (in64_small (by omega)) (in64_small (by omega)) (in64_small (by omega)) (in64_small (by omega)))).mono fun e w' ⟨h1, q, h2⟩ => ⟨h1, by rw [h2]; exact below_drewN (lit22_below W 1 0 3 (-1)) q⟩
       have H18v : Hid (∀ W, Below w1.heap.size w1 W → Calls Try.prog 18 #[.slice Av 2 cv, .slice (some ⟨W.heap.size + 1 + 1, 0, none⟩) 2 2] (lit22 W 1 (-2) 0 1) fun e w' => e = .returned (.bool true) ∧ Below W.heap.size W w') := Lib.hid fun W hW =>
         (sameLists18_any (lit22 W 1 (-2) 0 1) _ _ [[1, -2], [0, 1]] [[1, -2], [0, 1]] (kept_tab.below hv (hW.trans ((lit22_below W 1 (-2) 0 1).mono hW.size))) (lit22_tab W (in64_small (by omega)) (in64_small (by omega)) (in64_small (by omega)) (in64_small (by omega)))).mono fun e w' ⟨h1, q, h2⟩ => ⟨h1, by rw [h2]; exact below_drewN (lit22_below W 1 (-2) 0 1) q⟩
       unfold lit22 at H18u H18v
       clear hd hu hv hb)
    | (go_at_call 13; (refine (HG.out _).mono ?_); rintro e w2 ⟨⟨vt, rfl, ht⟩, hb⟩
       obtain ⟨At, ct, rfl, -, -, -⟩ := id ht.open_
       have HB2 := Lib.hid ((lit22_below w1 6 0 0 4).trans (hb.mono (lit22_below w1 6 0 0 4).size))
       have H30 : Hid (∀ W, Below w2.heap.size w2 W → Calls Try.prog 30 #[.slice At 2 ct, .int .i64 0, .int .i64 0, .int .i64 0, .slice (some ⟨W.heap.size, 0, none⟩) 2 2] (W.alloc (.cells #[.int .i64 2, .int .i64 12] 3)) fun e w' => e = .returned (.bool true) ∧ Below W.heap.size W w') := Lib.hid fun W hW =>
         (is30_true (W.alloc (.cells #[.int .i64 2, .int .i64 12] 3)) _ _ [2, 12] 0 (kept_ints.below ht (hW.alloc hW.size _)) (ints_two (heap_alloc_new W _) (in64_small (by omega)) (in64_small (by omega)))).mono fun e w' ⟨h1, q, h2⟩ => ⟨h1, by rw [h2]; exact below_drewN ((Below.refl _ _).alloc (Nat.le_refl _) _) q⟩
       clear ht hb)
    | (go_at_call 32; (refine (HR.out _ _ _ _).mono ?_); rintro e w' ⟨rfl, rfl⟩)
    | (go_at_call 17; (refine (H17.out w2 HB2.out).mono ?_); rintro e w3 ⟨rfl, hb⟩; have HB3 := Lib.hid hb; clear hb)
    | (go_at_call 18; (with_reducible refine (H18u.out w3 (HB2.out.trans (HB3.out.mono HB2.out.size))).mono ?_); rintro e w4 ⟨rfl, hb⟩; have HB4 := Lib.hid (HB3.out.trans (hb.mono HB3.out.size)); clear hb)
    | (go_at_call 18; (with_reducible refine (H18v.out w4 (HB2.out.trans (HB4.out.mono HB2.out.size))).mono ?_); rintro e w5 ⟨rfl, hb⟩; have HB5 := Lib.hid (HB4.out.trans (hb.mono HB4.out.size)); clear hb)
    | (go_at_call 30; (refine (H30.out w5 HB5.out).mono ?_); rintro e w6 ⟨rfl, hb⟩; have HB6 := Lib.hid (HB5.out.trans (hb.mono HB5.out.size)); clear hb))
  go_ret
  exact ⟨rfl, HB1.out.trans ((HB2.out.trans (HB6.out.mono HB2.out.size)).mono HB1.out.size)⟩
end Go.Proofs
namespace Go.Proofs
open Go.RowKit Go.Shelf Go.Proofs.Sm
section
variable {base : Nat} {w w' : World} {v : Value} {bl cs : Nat → Nat} {m : Mat}
theorem MatM.same (h : MatM base w v bl cs m) (hv : ∀ r, v.ownBlock = some r → w'.heap[r]? = w.heap[r]?) (hb : ∀ i, i < m.length → w'.heap[bl i]? = w.heap[bl i]?) : MatM base w' v bl cs m :=
  ⟨owns_keep h.out hv, fun i hi => let ⟨a, b, c⟩ := h.row i hi; ⟨a, b.keep (hb i hi), c⟩, h.inj⟩
theorem MatM.row_ty (h : MatM base w v bl cs m) {i : Nat} (hi : i < m.length) : ∃ C, w.heap[bl i]? = some (.cells C 3 (0, 0)) := by
  obtain ⟨-, ⟨C, hC, -⟩, -⟩ := h.row i hi
  exact ⟨C, hC⟩
theorem MatM.nil (base : Nat) (w : World) : MatM base w (.slice none 0 0) (fun _ => 0) (fun _ => 0) [] := ⟨World.ownsRow_nil _ _ _ _, fun _i hi => absurd hi (Nat.not_lt_zero _), fun _i _j hi => absurd hi (Nat.not_lt_zero _)⟩
theorem MatM.form (h : MatM base w v bl cs m) : ∃ A c, v = .slice A m.length c := owns_form h.out
theorem MatM.tab (h : MatM base w v bl cs m) (hf : ∀ y ∈ m, Fits y) : Tab w v m :=
  ⟨_, sl_of_owns h.out, by simp, fun i hi => by
    obtain ⟨-, hX, h1, h2⟩ := h.row i hi
    exact ⟨.slice (some ⟨bl i, 0, none⟩) (m.getD i []).length (cs i), by simp only [List.getElem?_map, List.getElem?_range hi, Option.map_some], hX.ints rfl h1 h2 (hf _ (by rw [List.getD_eq_getElem?_getD, List.getElem?_eq_getElem hi]; exact List.getElem_mem hi))⟩⟩
set_option maxRecDepth 10000 in
/-- a row of the call's own joins -/
theorem MatM.push (h : MatM base w v bl cs m) (hbw : base ≤ w.heap.size) {g c : Nat} {xs : List Int} (hx : XsAt w g xs) (hg : base ≤ g) (hc : xs.length ≤ c) (hcm : c ≤ 9223372036854775807) (hnew : ∀ i, i < m.length → bl i ≠ g) (hl : m.length ≤ 1000000) :
    ∃ A' c' w', (Builtin.append_ #[22, 22] 22 #[v, .slice (some ⟨w.heap.size, 0, none⟩) 1 1]).run Try.prog (w.alloc (.cells #[.slice (some ⟨g, 0, none⟩) xs.length c] 25)) = .ok (.slice A' (m.length + 1) c') w' ∧
      (∃ bl' cs', MatM base w' (.slice A' (m.length + 1) c') bl' cs' (m ++ [xs])) ∧ w.grownBy w' v.ownBlock := by
  obtain ⟨A', c', w', hr, ho, hgr, hw⟩ := run_push (ty := 22) Try.underlying22 info24p rfl (by omega) w base v m.length _ h.out (.slice (some ⟨g, 0, none⟩) xs.length c) rfl (by omega) hbw
  have hkeep : ∀ (p : Nat) (C : Array Value), w.heap[p]? = some (.cells C 3 (0, 0)) → w'.heap[p]? = w.heap[p]? := fun p C hp => hgr.block p (Array.getElem?_eq_some_iff.1 hp).1 (fun e2 => by
    obtain ⟨-, C', hC'⟩ := owns_block h.out p e2.symm
    rw [hp] at hC'
    injection hC' with h5
    injection h5 with _ h6 _
    exact absurd h6 (by decide))
  have hgl : ∀ i, i < m.length → (m ++ [xs]).getD i [] = m.getD i [] := fun i hi => by simp [List.getD_eq_getElem?_getD, List.getElem?_append_left hi]
  have hgl2 : (m ++ [xs]).getD m.length [] = xs := by simp [List.getD_eq_getElem?_getD]
  have hl1 : (m ++ [xs]).length = m.length + 1 := by simp
  obtain ⟨Cx, hCx, -⟩ := id hx
  refine ⟨A', c', w', hr, ⟨fun i => if i = m.length then g else bl i, fun i => if i = m.length then c else cs i, ?_, fun i hi => ?_, fun i j hi hj e => ?_⟩, hgr⟩
  · have e2 : (List.range (m.length + 1)).map (fun i => Value.slice (some ⟨if i = m.length then g else bl i, 0, none⟩) ((m ++ [xs]).getD i []).length (if i = m.length then c else cs i)) = ((List.range m.length).map fun i => Value.slice (some ⟨bl i, 0, none⟩) (m.getD i []).length (cs i)) ++ [.slice (some ⟨g, 0, none⟩) xs.length c] := by
      rw [List.range_succ, List.map_append]
      congr 1
      · refine List.map_congr_left fun i hi => ?_
        have hi' := List.mem_range.1 hi
        rw [if_neg (by omega), if_neg (by omega), hgl i hi']
      · simp only [List.map_cons, List.map_nil, hgl2, if_true]
    rw [hl1, e2]
    exact ho
  · rw [hl1] at hi
    by_cases e : i = m.length
    · subst e
      rw [if_pos rfl, if_pos rfl, hgl2]
      exact ⟨hg, hx.keep (hkeep g Cx hCx), hc, hcm⟩
    · have hi' : i < m.length := by omega
      rw [if_neg e, if_neg e, hgl i hi']
      obtain ⟨a1, a2, a3⟩ := h.row i hi'
      obtain ⟨C, hC⟩ := h.row_ty hi'
      exact ⟨a1, a2.keep (hkeep _ C hC), a3⟩
  · rw [hl1] at hi hj
    by_cases c1 : i = m.length
    · by_cases c2 : j = m.length
      · omega
      · simp only [if_pos c1, if_neg c2] at e
        exact absurd e.symm (hnew j (by omega))
    · by_cases c2 : j = m.length
      · simp only [if_neg c1, if_pos c2] at e
        exact absurd e (hnew i (by omega))
      · simp only [if_neg c1, if_neg c2] at e
        exact h.inj i j (by omega) (by omega) e
end
/-- the number from 0 to n - 1 that a number selects -/
theorem pick19_any (w : World) (x n : Int) (hx : In64 x) (hn : 1 ≤ n) (hn2 : n ≤ 1000) : Calls Try.prog 19 #[.int .i64 x, .int .i64 n] w fun e w' => e = .returned (.int .i64 (x % n)) ∧ w = w' := by
  obtain ⟨hx1, hx2⟩ := hx
  have h1 := Int.emod_nonneg x (show n ≠ 0 by omega)
  have h2 := Int.emod_lt_of_pos x (show 0 < n by omega)
  have hn0 : (n == 0) = false := by rw [beq_eq_false_iff_ne]; omega
  by_cases h0 : 0 ≤ x
  · go_enter Try.func19, Try.ntmps19
    go_wp2_with fail
    go_ret
    exact ⟨rfl, rfl⟩
  · have hm := Int.tmod_eq_emod (a := x) (b := n)
    by_cases hdv : n ∣ x
    · rw [if_pos (.inr hdv)] at hm
      have h3 : x % n = 0 := Int.emod_eq_zero_of_dvd hdv
      have hy : x.tmod n = 0 := by omega
      have HY := Lib.hid h3
      have hd : decide (x.tmod n < 0) = false := decide_eq_false (by omega)
      have HY2 := Lib.hid hy
      have hd2 : 0 ≤ x.tmod n := by omega
      clear hm h3 h1 h2 hy
      generalize x % n = z at *
      go_enter Try.func19, Try.ntmps19
      go_wp2_with fail
      go_ret
      exact ⟨ret_int (by rw [HY2.out, HY.out]), rfl⟩
    · rw [if_neg (by rintro (h | h); exact h0 h; exact hdv h)] at hm
      have h3 : x % n ≠ 0 := fun h => hdv (Int.dvd_of_emod_eq_zero h)
      have hy : x.tmod n = x % n - n := by omega
      have hd : decide (x.tmod n < 0) = true := decide_eq_true (by omega)
      have HY : Hid (x.tmod n + n = x % n) := Lib.hid (by omega)
      have hb1 : -1000 ≤ x.tmod n := by omega
      have hb2 : x.tmod n < 0 := by omega
      clear hm h3 hy h1 h2
      generalize x % n = z at *
      go_enter Try.func19, Try.ntmps19
      go_wp2_with fail
      go_ret
      exact ⟨ret_int HY.out, rfl⟩
/-- a Taker in memory: its list, which lies below its box, and its place -/
structure TkM (b : Nat) (w : World) (A : Option Addr) (c : Nat) (l : List Int) (at_ : Nat) : Prop where
  box : w.heap[b]? = some (.cells #[.slice A l.length c, .int .i64 (at_ : Int)] 39 (0, 0))
  list : ∀ w', (∀ p, p < b → w'.heap[p]? = w.heap[p]?) → IntsAt w' (.slice A l.length c) l
  le : at_ ≤ l.length
theorem TkM.start {w : World} {A : Option Addr} {c : Nat} {l : List Int} (h : IntsAt w (.slice A l.length c) l) : TkM w.heap.size (w.alloc (.cells #[.slice A l.length c, .int .i64 0] 39)) A c l 0 :=
  ⟨heap_alloc_new w _, fun _w' hw => kept_ints _ _ _ _ (fun k hk => (hw k hk).trans (Below.heap_alloc w _ k hk)) h, Nat.zero_le _⟩
theorem TkM.cells {b : Nat} {w : World} {A : Option Addr} {c : Nat} {l : List Int} {k : Nat} (h : TkM b w A c l k) : w.cell? ⟨b, 0, none⟩ = some (.slice A l.length c) ∧ w.cell? ⟨b, 1, none⟩ = some (.int .i64 (k : Int)) ∧ w.frozen? ⟨b, 1, none⟩ = false :=
  ⟨by rw [cell_of_row _ _ _ _ _ _ h.box]; rfl, by rw [cell_of_row _ _ _ _ _ _ h.box]; rfl, by simp [World.frozen?, h.box]⟩
theorem TkM.keep {b : Nat} {w w' : World} {A : Option Addr} {c : Nat} {l : List Int} {k : Nat} (h : TkM b w A c l k) (hb : ∀ p, p ≤ b → w'.heap[p]? = w.heap[p]?) : TkM b w' A c l k :=
  ⟨(hb b (Nat.le_refl _)).trans h.box, fun w'' hw => h.list w'' fun p hp => (hw p hp).trans (hb p (by omega)), h.le⟩
theorem TkM.lt {b : Nat} {w : World} {A : Option Addr} {c : Nat} {l : List Int} {k : Nat} (h : TkM b w A c l k) : b < w.heap.size := (Array.getElem?_eq_some_iff.1 h.box).1
theorem TkM.put {b : Nat} {w : World} {A : Option Addr} {c : Nat} {l : List Int} {k : Nat} (h : TkM b w A c l k) (hk : k < l.length) : TkM b (w.setCell ⟨b, 1, none⟩ (.int .i64 ((k + 1 : Nat) : Int))) A c l (k + 1) :=
  ⟨by rw [box_set h.box]; rfl, fun w' hw => h.list w' fun p hp => (hw p hp).trans (Below.heap_setCell w ⟨b, 1, none⟩ _ p (by show p ≠ b; omega)), hk⟩
/-- the number handed out at k, below n -/
def takeV (l : List Int) (k : Nat) (n : Int) : Int := if k < l.length then l.getD k 0 % n else 0
def takeN (l : List Int) (k : Nat) : Nat := if k < l.length then k + 1 else k
def TakePost (b : Nat) (A : Option Addr) (c : Nat) (l : List Int) (k : Nat) (n : Int) (w : World) (e : Ending) (w' : World) : Prop := e = .returned (.int .i64 (takeV l k n)) ∧ TkM b w' A c l (takeN l k) ∧ w.grownBy w' (some b)
set_option maxRecDepth 100000 in
set_option maxHeartbeats 1000000 in
theorem take25_any (b : Nat) (w : World) (A : Option Addr) (c : Nat) (l : List Int) (k : Nat) (n : Int) (h : TkM b w A c l k) (hn : 1 ≤ n) (hn2 : n ≤ 1000) : Calls Try.prog 25 #[.pointer (some ⟨b, 0, none⟩), .int .i64 n] w (TakePost b A c l k n w) := by
  obtain ⟨c0, c1, c2⟩ := h.cells
  have hbl := h.lt
  have hle := h.le
  have hI := h.list w fun _ _ => rfl
  have HT := Lib.hid h
  obtain ⟨A0, c0', e0, h1, h2, hc⟩ := hI.open_
  have hfit := hI.2.at_ k
  have hk0 : (0 : Int) ≤ (k : Int) := Int.natCast_nonneg _
  have hlen : (l.length : Int) ≤ 9223372036854775807 := by omega
  have hA0 : A = A0 := by injection e0
  have hc0 : c = c0' := by injection e0
  subst hA0
  subst hc0
  clear hI e0
  by_cases hk : k < l.length
  · obtain ⟨bo, o, rfl, -⟩ := hc (by omega)
    have hP := h.put hk
    have hck : ∀ q, ((w.drewN q).setCell ⟨b, 1, none⟩ (.int .i64 ((k + 1 : Nat) : Int))).cell? ⟨bo, o + k, none⟩ = some (.int .i64 (l.getD k 0)) := fun q => by
      have hI2 := hP.list ((w.drewN q).setCell ⟨b, 1, none⟩ (.int .i64 ((k + 1 : Nat) : Int))) fun _ _ => rfl
      obtain ⟨A1, c1', e1, -, -, hc2⟩ := hI2.open_
      obtain ⟨b2, o2, e2, hcell⟩ := hc2 (by omega)
      rw [e2] at e1
      have e3 : (⟨bo, o, none⟩ : Addr) = ⟨b2, o2, none⟩ := by injection e1 with e4; injection e4
      injection e3 with e5 e6
      subst e5
      subst e6
      exact hcell k hk
    rw [show ((k + 1 : Nat) : Int) = (k : Int) + 1 by omega] at hck hP
    have HV : Hid (takeV l k n = l.getD k 0 % n) := Lib.hid (if_pos hk)
    have HN : Hid (takeN l k = k + 1) := Lib.hid (if_pos hk)
    have HPK : Hid (∀ W, Calls Try.prog 19 #[.int .i64 (l.getD k 0), .int .i64 n] W fun e w' => e = .returned (.int .i64 (l.getD k 0 % n)) ∧ W = w') := Lib.hid fun W => pick19_any W _ n hfit hn hn2
    have HPUT := Lib.hid hP
    have hd1 : decide ((l.length : Int) ≤ (k : Int)) = false := decide_eq_false (by omega)
    have hd2 : decide (l.length ≤ k) = false := decide_eq_false (by omega)
    have hd3 : decide (n < 1) = false := decide_eq_false (by omega)
    have hkl : (k : Int) < (l.length : Int) := by omega
    have hwr1 : IntKind.i64.wrap ((k : Int) + 1 - 1) = (k : Int) := by rw [IntWalk.i64_in _ (by omega)]; omega
    have hwr2 : IntKind.i64.wrap (k : Int) = (k : Int) := IntWalk.i64_in _ (by omega)
    clear h hc hP
    generalize l.getD k 0 = x at *
    generalize l.length = L at *
    go_enter Try.func25, Try.ntmps25
    go_wp2_with fail
    go_quiet (fail)
    go_wp2_with fail
    go_region_law ((go_simp; go_at_call 19; (refine (HPK.out _).mono ?_); rintro e w9 ⟨rfl, rfl⟩))
    all_goals
      go_wp2_with fail
      go_ret
      exact ⟨ret_int HV.out.symm, by rw [HN.out]; exact HPUT.out.keep fun _ _ => rfl, ⟨rfl, rfl, rfl, by simp [World.setCell, World.drewN, World.drew], fun i _ hne => Below.heap_setCell w ⟨b, 1, none⟩ _ i (fun e => hne (by rw [e]))⟩⟩
  · have HV : Hid (takeV l k n = 0) := Lib.hid (if_neg hk)
    have HN : Hid (takeN l k = k) := Lib.hid (if_neg hk)
    have hd1 : decide ((l.length : Int) ≤ (k : Int)) = true := decide_eq_true (by omega)
    have hd2 : decide (l.length ≤ k) = true := decide_eq_true (by omega)
    clear h hc
    go_enter Try.func25, Try.ntmps25
    go_wp2_with fail
    go_quiet (fail)
    go_wp2_with fail
    go_ret
    exact ⟨ret_int HV.out.symm, by rw [HN.out]; exact HT.out.keep fun _ _ => rfl, ⟨rfl, rfl, rfl, Nat.le_refl _, fun _ _ _ => rfl⟩⟩
end Go.Proofs
namespace Go.Proofs
open Go.RowKit Go.Shelf Go.Proofs.Sm
/-- the e-th number drawn -/
def dr (l : List Int) (e : Nat) : Int := takeV l (min e l.length) 13 - 6
def drRow (l : List Int) (n i : Nat) : List Int := (List.range n).map fun k => dr l (i * n + k)
def drawnE (l : List Int) (rows n : Nat) : Mat := (List.range rows).map (drRow l n)
theorem take_min (l : List Int) (e : Nat) : takeN l (min e l.length) = min (e + 1) l.length := by
  unfold takeN
  split <;> omega
theorem dr_bd (l : List Int) (e : Nat) : -6 ≤ dr l e ∧ dr l e ≤ 6 := by
  unfold dr takeV
  split
  · have h1 := Int.emod_nonneg (l.getD (min e l.length) 0) (show (13 : Int) ≠ 0 by omega)
    have h2 := Int.emod_lt_of_pos (l.getD (min e l.length) 0) (show (0 : Int) < 13 by omega)
    omega
  · omega
theorem drawnE_length (l : List Int) (rows n : Nat) : (drawnE l rows n).length = rows := by simp [drawnE]
theorem drRow_length (l : List Int) (n i : Nat) : (drRow l n i).length = n := by simp [drRow]
theorem drawnE_succ (l : List Int) (i n : Nat) : drawnE l (i + 1) n = drawnE l i n ++ [drRow l n i] := by simp [drawnE, List.range_succ]
theorem drPre_succ (l : List Int) (n i k : Nat) : (List.range (k + 1)).map (fun k => dr l (i * n + k)) = (List.range k).map (fun k => dr l (i * n + k)) ++ [dr l (i * n + k)] := by simp [List.range_succ]
/-- w' is w with new blocks and another block b -/
theorem gr_trans {w w1 w2 : World} {b : Nat} (h : w.grownBy w1 (some b)) (h' : w1.grownBy w2 (some b)) : w.grownBy w2 (some b) :=
  ⟨h'.os.trans h.os, h'.tape.trans h.tape, h'.output.trans h.output, Nat.le_trans h.size h'.size, fun i hi hne => (h'.block i (Nat.lt_of_lt_of_le hi h.size) hne).trans (h.block i hi hne)⟩
theorem gr_own {w w1 w2 : World} {b : Nat} {row : Option Nat} (h : w.grownBy w1 (some b)) (h' : w1.grownBy w2 row) (hr : ∀ r, row = some r → w.heap.size ≤ r) : w.grownBy w2 (some b) :=
  ⟨h'.os.trans h.os, h'.tape.trans h.tape, h'.output.trans h.output, Nat.le_trans h.size h'.size, fun i hi hne => (h'.block i (Nat.lt_of_lt_of_le hi h.size) (fun e => by have := hr i e.symm; omega)).trans (h.block i hi hne)⟩
theorem below_gr {w w1 : World} {b : Nat} (h : w.grownBy w1 (some b)) (hb : b < w.heap.size) : Below b w w1 := ⟨h.os, h.tape, h.output, h.size, fun i hi => h.block i (by omega) (fun e => by have := Option.some.inj e; omega)⟩
/-- the drawing under way: i rows are whole, the next one has k numbers -/
structure DrawM (b n i k : Nat) (w wr : World) (At : Option Addr) (ct : Nat) (l : List Int) (v : Value) (bl cs : Nat → Nat) (vr : Value) : Prop where
  mat : MatM w.heap.size wr v bl cs (drawnE l i n)
  row : OwnI w.heap.size wr vr ((List.range k).map fun k => dr l (i * n + k))
  sep : ∀ j, j < i → vr.ownBlock ≠ some (bl j)
  tk : TkM b wr At ct l (min (i * n + k) l.length)
  gr : w.grownBy wr (some b)
theorem DrawM.sepv {b n i k : Nat} {w wr : World} {At : Option Addr} {ct : Nat} {l : List Int} {v : Value} {bl cs : Nat → Nat} {vr : Value} (h : DrawM b n i k w wr At ct l v bl cs vr) : ∀ r, v.ownBlock = some r → vr.ownBlock ≠ some r := fun r hr e => by
  obtain ⟨-, C, hC⟩ := owns_block h.mat.out r hr
  obtain ⟨-, C', hC'⟩ := owns_block h.row r e
  rw [hC] at hC'
  injection hC' with h5
  injection h5 with _ h6 _
  exact absurd h6 (by decide)
/-- a number is taken -/
theorem DrawM.taken {b n i k : Nat} {w wr w1 : World} {At : Option Addr} {ct : Nat} {l : List Int} {v : Value} {bl cs : Nat → Nat} {vr : Value} (h : DrawM b n i k w wr At ct l v bl cs vr) (hb : b < w.heap.size) (htk : TkM b w1 At ct l (takeN l (min (i * n + k) l.length))) (hg : wr.grownBy w1 (some b)) :
    MatM w.heap.size w1 v bl cs (drawnE l i n) ∧ OwnI w.heap.size w1 vr ((List.range k).map fun k => dr l (i * n + k)) ∧ TkM b w1 At ct l (min (i * n + (k + 1)) l.length) ∧ w.grownBy w1 (some b) := by
  refine ⟨h.mat.same (fun r hr => ?_) (fun j hj => ?_), owns_keep h.row fun r hr => ?_, by rw [take_min] at htk; exact htk, gr_trans h.gr hg⟩
  · have h1 := h.mat.lt.2 r hr
    exact hg.block r h1.2 (fun e => by have := Option.some.inj e; omega)
  · have h1 := h.mat.lt.1 j hj
    have h2 := (h.mat.row j hj).1
    exact hg.block _ h1 (fun e => by have := Option.some.inj e; omega)
  · have h1 := (owns_block h.row r hr).1
    exact hg.block r (owns_lt h.row hr) (fun e => by have := Option.some.inj e; omega)
/-- the number joins the row -/
theorem DrawM.add {b n i k : Nat} {w wr w1 : World} {At : Option Addr} {ct : Nat} {l : List Int} {v : Value} {bl cs : Nat → Nat} {vr : Value} (h : DrawM b n i k w wr At ct l v bl cs vr) (hb : b < w.heap.size) (htk : TkM b w1 At ct l (takeN l (min (i * n + k) l.length))) (hg : wr.grownBy w1 (some b)) (hk : k ≤ 1000) :
    ∃ A' c' w', (Builtin.append_ #[25, 25] 25 #[vr, .slice (some ⟨w1.heap.size, 0, none⟩) 1 1]).run Try.prog (w1.alloc (.cells #[.int .i64 (dr l (i * n + k))] 3)) = .ok (.slice A' (k + 1) c') w' ∧ DrawM b n i (k + 1) w w' At ct l v bl cs (.slice A' (k + 1) c') := by
  obtain ⟨h1, h2, h3, h4⟩ := h.taken hb htk hg
  have hlen : ((List.range k).map fun k => dr l (i * n + k)).length = k := by simp
  obtain ⟨A', c', w', hr, ho, hgr, hw⟩ := push_int 25 25 Try.underlying25 w1 w.heap.size vr _ h2 (dr l (i * n + k)) (by rw [hlen]; omega) h4.size
  rw [hlen] at hr ho hw
  rw [← drPre_succ] at ho
  have hrow := owns_block h2
  refine ⟨A', c', w', hr, h1.same (fun r hr' => hgr.block r (h1.lt.2 r hr').2 (fun e => h.sepv r hr' e.symm)) (fun j hj => hgr.block _ (h1.lt.1 j hj) (fun e => h.sep j (by rw [drawnE_length] at hj; exact hj) e.symm)), ho, fun j hj e => ?_, h3.keep fun p hp => hgr.block p (by have := h4.size; omega) (fun e => by have := (hrow p e.symm).1; omega), gr_own h4 hgr fun r hr' => (hrow r hr').1⟩
  rcases hw with hw | ⟨r, hr', hge⟩
  · exact h.sep j hj (by rw [← hw]; exact e)
  · rw [hr'] at e
    have e2 := Option.some.inj e
    have := h1.lt.1 j (by rw [drawnE_length]; exact hj)
    omega
/-- the row joins the matrix -/
theorem DrawM.done {b n i : Nat} {w wr : World} {At : Option Addr} {ct : Nat} {l : List Int} {A : Option Addr} {c : Nat} {v : Value} {bl cs : Nat → Nat} (h : DrawM b n i n w wr At ct l v bl cs (.slice A n c)) (hb : b < w.heap.size) (hn : 1 ≤ n) (hi : i ≤ 1000) :
    ∃ A' c' w' bl' cs', (Builtin.append_ #[22, 22] 22 #[v, .slice (some ⟨wr.heap.size, 0, none⟩) 1 1]).run Try.prog (wr.alloc (.cells #[.slice A n c] 25)) = .ok (.slice A' (i + 1) c') w' ∧ MatM w.heap.size w' (.slice A' (i + 1) c') bl' cs' (drawnE l (i + 1) n) ∧ TkM b w' At ct l (min ((i + 1) * n) l.length) ∧ w.grownBy w' (some b) := by
  have hrow : OwnI w.heap.size wr (.slice A (drRow l n i).length c) (drRow l n i) := by
    rw [drRow_length]; exact h.row
  obtain ⟨g, rfl, hx, hg, hc1, hc2⟩ := owns_xs hrow (by rw [drRow_length]; exact hn)
  obtain ⟨A', c', w', hr, ⟨bl', cs', hm⟩, hgr⟩ := h.mat.push h.gr.size hx hg hc1 hc2 (fun j hj e => h.sep j (by rw [drawnE_length] at hj; exact hj) (by show some g = some (bl j); rw [e])) (by rw [drawnE_length]; omega)
  rw [drawnE_length, drRow_length] at hr
  rw [drawnE_length, ← drawnE_succ] at hm
  have hv := owns_block h.mat.out
  refine ⟨A', c', w', bl', cs', hr, hm, ?_, gr_own h.gr hgr fun r hr' => (hv r hr').1⟩
  have htk := h.tk
  rw [show i * n + n = (i + 1) * n by rw [Nat.add_mul]; omega] at htk
  exact htk.keep fun p hp => hgr.block p (by have := h.gr.size; omega) (fun e => by have := (hv p e.symm).1; omega)
def DrawnPost (b rows n : Nat) (At : Option Addr) (ct : Nat) (l : List Int) (w : World) (e : Ending) (w' : World) : Prop := ∃ A c bl cs, e = .returned (.slice A rows c) ∧ MatM w.heap.size w' (.slice A rows c) bl cs (drawnE l rows n) ∧ TkM b w' At ct l (min (rows * n) l.length) ∧ w.grownBy w' (some b)
set_option maxRecDepth 100000 in
set_option maxHeartbeats 1000000 in
theorem drawn20_any (b rows n : Nat) (w : World) (At : Option Addr) (ct : Nat) (l : List Int) (hT : TkM b w At ct l 0) (hn : 1 ≤ n) (hn2 : n ≤ 100) (hr : rows ≤ 100) : Calls Try.prog 20 #[.pointer (some ⟨b, 0, none⟩), .int .i64 (rows : Int), .int .i64 (n : Int)] w (DrawnPost b rows n At ct l w) := by
  have hb := hT.lt
  have HT := Lib.hid hT
  clear hT
  have hr0 : (0 : Int) ≤ (rows : Int) := Int.natCast_nonneg _
  have hrb : (rows : Int) ≤ 100 := by omega
  have hnb : (n : Int) ≤ 100 := by omega
  go_enter Try.func20, Try.ntmps20
  go_wp2_with fail
  go_loopw [7, 8] (fun zv z wr => ∃ (i : Nat) (A : Option Addr) (c : Nat), i ≤ rows ∧ z = .int .i64 i ∧ zv = .slice A i c ∧ Hid ((∃ bl cs, MatM w.heap.size wr (.slice A i c) bl cs (drawnE l i n)) ∧ TkM b wr At ct l (min (i * n) l.length) ∧ w.grownBy wr (some b))) (fun _ z _ => rows - (intOf z).toNat)
  case atStart => exact ⟨0, none, 0, by omega, rfl, rfl, Lib.hid ⟨⟨_, _, MatM.nil _ _⟩, by rw [show min (0 * n) l.length = 0 by simp]; exact HT.out, World.grownBy.refl _ _⟩⟩
  case round =>
    obtain ⟨i, A, c, hi, rfl, rfl, HQ⟩ := hrel
    have hi0 : (0 : Int) ≤ (i : Int) := Int.natCast_nonneg _
    by_cases hlt : i < rows
    · have hlt' : (i : Int) < (rows : Int) := by omega
      obtain ⟨⟨bl, cs, hM⟩, hT, hG⟩ := HQ.out
      have HST : Hid (DrawM b n i 0 w wr At ct l (.slice A i c) bl cs (.slice none 0 0)) := Lib.hid ⟨hM, World.ownsRow_nil _ _ _ _, fun j hj e => (by cases e), by rw [Nat.add_zero]; exact hT, hG⟩
      clear hM hT hG
      go_wp2_with fail
      go_loopw [9, 10] (fun zr z wr => ∃ (k : Nat) (A' : Option Addr) (c' : Nat), k ≤ n ∧ z = .int .i64 k ∧ zr = .slice A' k c' ∧ Hid (DrawM b n i k w wr At ct l (.slice A i c) bl cs (.slice A' k c'))) (fun _ z _ => n - (intOf z).toNat)
      case atStart => exact ⟨0, none, 0, by omega, rfl, rfl, HST⟩
      case round =>
        obtain ⟨k, A', c', hk, rfl, rfl, HD⟩ := hrel
        have hk0 : (0 : Int) ≤ (k : Int) := Int.natCast_nonneg _
        by_cases hkl : k < n
        · have hkl' : (k : Int) < (n : Int) := by omega
          have HTAKE := Lib.hid (take25_any b wr At ct l _ 13 HD.out.tk (by omega) (by omega))
          have hdb := dr_bd l (i * n + k)
          have hdv : dr l (i * n + k) = takeV l (min (i * n + k) l.length) 13 - 6 := rfl
          have HADD : Hid (∀ w1, TkM b w1 At ct l (takeN l (min (i * n + k) l.length)) → wr.grownBy w1 (some b) → ∃ A'' c'' w', (Builtin.append_ #[25, 25] 25 #[.slice A' k c', .slice (some ⟨w1.heap.size, 0, none⟩) 1 1]).run Try.prog (w1.alloc (.cells #[.int .i64 (takeV l (min (i * n + k) l.length) 13 - 6)] 3)) = .ok (.slice A'' (k + 1) c'') w' ∧ DrawM b n i (k + 1) w w' At ct l (.slice A i c) bl cs (.slice A'' (k + 1) c'')) := Lib.hid fun w1 h1 h2 => by
            have h := HD.out.add hb h1 h2 (by omega)
            rw [hdv] at h
            exact h
          rw [hdv] at hdb
          clear hdv
          go_wp2_with (first
            | (go_at_call 25; (refine HTAKE.out.mono ?_); rintro e w1 ⟨rfl, htk, hg⟩
               obtain ⟨A2, c2, w2, hr2, hd2⟩ := HADD.out w1 htk hg
               have HR2 := Lib.hid hr2
               have HD2 := Lib.hid hd2
               clear htk hg hr2 hd2)
            | ((with_reducible refine wpList_sel 26 ?_); refine wpList_val rfl (r_app (.tmp 21) (.tmp 25) 25 rfl rfl rfl HR2.out) ?_))
          go_roundw
          case rel => exact ⟨k + 1, A2, c2, by omega, by go_num, rfl, HD2⟩
          case measure => simp [intOf]; omega
        · obtain rfl : k = n := by omega
          obtain ⟨A2, c2, w2, bl2, cs2, hr2, hm2, ht2, hg2⟩ := HD.out.done hb hn (by omega)
          have HR2 := Lib.hid hr2
          have HN := Lib.hid (And.intro hm2 (And.intro ht2 hg2))
          clear hr2 hm2 ht2 hg2
          go_wp2_with ((with_reducible refine wpList_sel 30 ?_); refine wpList_val rfl (r_app (.tmp 27) (.tmp 29) 22 rfl rfl rfl HR2.out) ?_)
          go_roundw
          case rel => exact ⟨i + 1, A2, c2, by omega, by go_num, rfl, Lib.hid ⟨⟨_, _, HN.out.1⟩, HN.out.2.1, HN.out.2.2⟩⟩
          case measure => simp [intOf]; omega
    · obtain rfl : i = rows := by omega
      obtain ⟨⟨bl, cs, hM⟩, hT, hG⟩ := HQ.out
      have HR := Lib.hid (And.intro hM (And.intro hT hG))
      clear hM hT hG
      go_wp2_with fail
      go_ret
      exact ⟨A, c, bl, cs, rfl, HR.out.1, HR.out.2.1, HR.out.2.2⟩
end Go.Proofs
namespace Go.Proofs
open Go.RowKit Go.Shelf Go.Proofs.Sm
set_option maxRecDepth 100000 in
theorem shape21_true (w : World) (v : Value) (a : Mat) (r n : Nat) (h : Tab w v a) (ha : Rect a r n) : Calls Try.prog 21 #[v, .int .i64 (r : Int), .int .i64 (n : Int)] w fun e w' => e = .returned (.bool true) ∧ ∃ q, w' = w.drewN q := by
  obtain ⟨A0, c0, rfl, h1, h2, hc⟩ := h.open_
  obtain ⟨ha1, ha2⟩ := ha
  have hl := ha1
  rw [ha1] at h1 ⊢
  have HC := Lib.hid hc
  have HL := Lib.hid hl
  have HA : Hid (∀ i, i < r → (a.getD i []).length = n) := Lib.hid fun i hi => rect_row ⟨ha1, ha2⟩ hi
  clear h hc ha1 ha2 hl
  have hd1 : (r == r) = true := by simp
  have hd2 : ((r : Int) == (r : Int)) = true := by simp
  have hn1 : (n != n) = false := by simp
  have hn2 : ((n : Int) != (n : Int)) = false := by simp
  go_enter Try.func21, Try.ntmps21
  go_wp2_with fail
  go_loopw [7] (fun z wr => ∃ i : Nat, i ≤ r ∧ z = .int .i64 i ∧ ∃ q, wr = w.drewN q) (fun z _ => r - (intOf z).toNat)
  case atStart => exact ⟨0, by omega, rfl, 0, rfl⟩
  case round =>
    obtain ⟨i, hi, rfl, q, rfl⟩ := hrel
    have hi0 : (0 : Int) ≤ (i : Int) := Int.natCast_nonneg _
    by_cases hlt : i < r
    · have hlt' : (i : Int) < (r : Int) := by omega
      obtain ⟨b, o, rfl, hcc⟩ := HC.out (by rw [HL.out]; omega)
      obtain ⟨u, hu, hI⟩ := hcc i (by rw [HL.out]; exact hlt)
      obtain ⟨A1, c1, rfl, -, -, -⟩ := hI.open_
      rw [HA.out i hlt] at hu
      clear hcc hI
      go_wp2_with fail
      go_roundw
      case rel => exact ⟨i + 1, by omega, by go_num, _, rfl⟩
      case measure => simp [intOf]; omega
    · obtain rfl : i = r := by omega
      go_wp2_with fail
      go_ret
      exact ⟨rfl, _, rfl⟩
/-- a row of a product under way: k entries are whole, the next one has p terms -/
def rowTo (n q : Nat) (F : Nat → Nat → Int) (k p : Nat) : List Int := (List.range n).map fun c => if c < k then wr (sumN q (F c)) else if c = k then wr (sumN p (F c)) else 0
theorem rowTo_length (n q : Nat) (F : Nat → Nat → Int) (k p : Nat) : (rowTo n q F k p).length = n := by simp [rowTo]
theorem wr_zero : wr 0 = 0 := by decide
theorem rowTo_getD {n q : Nat} {F : Nat → Nat → Int} {k p : Nat} (h : k < n) : (rowTo n q F k p).getD k 0 = wr (sumN p (F k)) := by simp [rowTo, List.getD_eq_getElem?_getD, h]
theorem rowTo_start (n q : Nat) (F : Nat → Nat → Int) : rowTo n q F 0 0 = List.replicate n 0 := by
  apply List.ext_getElem (by simp [rowTo])
  intro c h1 h2
  simp [rowTo, sumN, wr_zero]
theorem rowTo_next (n q : Nat) (F : Nat → Nat → Int) (k : Nat) : rowTo n q F k q = rowTo n q F (k + 1) 0 := by
  unfold rowTo
  refine List.map_congr_left fun c _ => ?_
  by_cases h1 : c < k
  · rw [if_pos h1, if_pos (by omega)]
  · rw [if_neg h1]
    by_cases h2 : c = k
    · rw [if_pos h2, if_pos (by omega)]
    · rw [if_neg h2, if_neg (by omega)]
      split
      · show (0 : Int) = wr 0; rw [wr_zero]
      · rfl
theorem rowTo_full (n q : Nat) (F : Nat → Nat → Int) : rowTo n q F n 0 = (List.range n).map fun c => wr (sumN q (F c)) := by
  unfold rowTo
  refine List.map_congr_left fun c hc => ?_
  rw [if_pos (List.mem_range.1 hc)]
theorem rowTo_set {n q : Nat} {F : Nat → Nat → Int} {k p : Nat} {x y : Int} (_h : k < n) (hF : F k p = x * y) : (rowTo n q F k p).set k (wr (wr (sumN p (F k)) + wr (x * y))) = rowTo n q F k (p + 1) := by
  apply List.ext_getElem (by simp [rowTo])
  intro c h1 h2
  rw [List.getElem_set]
  by_cases e : k = c
  · subst e
    rw [if_pos rfl]
    simp only [rowTo, List.getElem_map, List.getElem_range, Nat.lt_irrefl, if_false, if_true]
    exact wr_sum_step p (F k) x y hF
  · rw [if_neg e]
    simp only [rowTo, List.getElem_map, List.getElem_range]
    by_cases h3 : c < k
    · rw [if_pos h3, if_pos h3]
    · rw [if_neg h3, if_neg h3, if_neg (fun h => e h.symm), if_neg (fun h => e h.symm)]
theorem wr_wrap64 (n : Int) : wrap64 n = wr n := by unfold wrap64 wr; rfl
theorem wr_wrap (n : Int) : IntKind.i64.wrap n = wr n := (IntWalk.i64_left n).trans (wr_wrap64 n)
/-- the entries of row i of a product -/
def mulF (a b : Mat) (i c j : Nat) : Int := (a.getD i []).getD j 0 * ent b j c
theorem mulW_row {n : Nat} {a b : Mat} {i : Nat} (hi : i < a.length) : (mulW n a b).getD i [] = rowTo n b.length (mulF a b i) n 0 := by
  rw [rowTo_full]
  simp only [mulW, List.getD_eq_getElem?_getD, List.getElem?_map, List.getElem?_eq_getElem hi, Option.map_some, Option.getD_some]
  refine List.map_congr_left fun c _ => ?_
  congr 2
  funext j
  simp [mulF, List.getD_eq_getElem?_getD, hi]
/-- a product under way -/
structure MulM (g i : Nat) (w wr : World) (a b : Mat) (n : Nat) (v : Value) (bl cs : Nat → Nat) (xs : List Int) : Prop where
  mat : MatM w.heap.size wr v bl cs ((mulW n a b).take i)
  row : XsAt wr g xs
  ge : w.heap.size ≤ g
  sep : ∀ j, j < ((mulW n a b).take i).length → bl j ≠ g
  below : Below w.heap.size w wr
theorem MulM.set {g i : Nat} {w wr : World} {a b : Mat} {n : Nat} {v : Value} {bl cs : Nat → Nat} {xs : List Int} (h : MulM g i w wr a b n v bl cs xs) {k : Nat} (hk : k < xs.length) (z : Int) : MulM g i w (wr.setCell ⟨g, k, none⟩ (.int .i64 z)) a b n v bl cs (xs.set k z) := by
  obtain ⟨C, hC, -⟩ := id h.row
  have hne : ∀ p, p ≠ g → (wr.setCell ⟨g, k, none⟩ (.int .i64 z)).heap[p]? = wr.heap[p]? := fun p hp => Below.heap_setCell wr ⟨g, k, none⟩ _ p hp
  refine ⟨h.mat.same (fun r hr => hne r fun e => ?_) (fun j hj => hne _ (h.sep j hj)), h.row.set hk z, h.ge, h.sep, h.below.setCell (p := ⟨g, k, none⟩) h.ge _⟩
  obtain ⟨-, C', hC'⟩ := owns_block h.mat.out r hr
  rw [e, hC] at hC'
  injection hC' with h5
  injection h5 with _ h6 _
  exact absurd h6 (by decide)
theorem MulM.drew {g i : Nat} {w wr : World} {a b : Mat} {n : Nat} {v : Value} {bl cs : Nat → Nat} {xs : List Int} (h : MulM g i w wr a b n v bl cs xs) (q : Nat) : MulM g i w (wr.drewN q) a b n v bl cs xs := ⟨h.mat.same (fun _ _ => rfl) (fun _ _ => rfl), h.row.keep rfl, h.ge, h.sep, below_drewN h.below q⟩
def MulPost (n : Nat) (a b : Mat) (w : World) (e : Ending) (w' : World) : Prop := ∃ A c bl cs, e = .returned (.slice A a.length c) ∧ MatM w.heap.size w' (.slice A a.length c) bl cs (mulW n a b) ∧ Below w.heap.size w w'
set_option maxRecDepth 100000 in
set_option maxHeartbeats 2000000 in
theorem mul22_any (w : World) (va vb : Value) (a b : Mat) (p q n : Nat) (ha : Tab w va a) (hb : Tab w vb b) (hra : Rect a p q) (hrb : Rect b q n) (hn : 1 ≤ n) (hp : p ≤ 1000) (hq : q ≤ 1000) (hn2 : n ≤ 1000) : Calls Try.prog 22 #[va, vb, .int .i64 (n : Int)] w (MulPost n a b w) := by
  obtain ⟨A0, c0, rfl, ha1, ha2, hca⟩ := ha.open_
  obtain ⟨B0, d0, rfl, hb1, hb2, hcb⟩ := hb.open_
  have HRA := Lib.hid hra
  have HRB := Lib.hid hrb
  rw [hra.1] at ha1 hca ⊢
  rw [hrb.1] at hb1 hcb ⊢
  have HCA := Lib.hid hca
  have HCB := Lib.hid hcb
  clear ha hb hca hcb hra hrb
  have hpb : (p : Int) ≤ 1000 := by omega
  have hqb : (q : Int) ≤ 1000 := by omega
  have hnb : (n : Int) ≤ 1000 := by omega
  have hn0 : (0 : Int) ≤ (n : Int) := Int.natCast_nonneg _
  go_enter Try.func22, Try.ntmps22
  go_wp2_with fail
  go_loopw [7, 8] (fun zv z wr => ∃ (i : Nat) (A : Option Addr) (c : Nat), i ≤ p ∧ z = .int .i64 i ∧ zv = .slice A i c ∧ Hid ((∃ bl cs, MatM w.heap.size wr (.slice A i c) bl cs ((mulW n a b).take i)) ∧ Below w.heap.size w wr)) (fun _ z _ => p - (intOf z).toNat)
  case atStart => exact ⟨0, none, 0, by omega, rfl, rfl, Lib.hid ⟨⟨_, _, MatM.nil _ _⟩, Below.refl _ _⟩⟩
  case round =>
    obtain ⟨i, A, c, hi, rfl, rfl, HQ⟩ := hrel
    have hi0 : (0 : Int) ≤ (i : Int) := Int.natCast_nonneg _
    have hlen : (mulW n a b).length = p := by rw [(mulW_rect n a b).1, HRA.out.1]
    have htl : ((mulW n a b).take i).length = i := by rw [List.length_take, hlen]; omega
    have HTL := Lib.hid htl
    have HLEN := Lib.hid hlen
    clear hlen htl
    by_cases hlt : i < p
    · have hlt' : (i : Int) < (p : Int) := by omega
      obtain ⟨⟨bl, cs, hM⟩, hB⟩ := HQ.out
      obtain ⟨w1, hm1, hx1, hb1', hz1⟩ := make25_any wr n (by omega)
      have HM1 := Lib.hid hm1
      obtain ⟨g, hg⟩ : ∃ g, g = wr.heap.size := ⟨_, rfl⟩
      rw [← hg] at HM1 hx1
      have HST : Hid (MulM g i w w1 a b n (.slice A i c) bl cs (rowTo n q (mulF a b i) 0 0)) := Lib.hid ⟨hM.keep hb1', by rw [rowTo_start]; exact hx1, by rw [hg]; exact hB.size, fun j hj e => by have := hM.lt.1 j hj; omega, hB.trans (hb1'.mono hB.size)⟩
      clear hm1 hx1 hb1' hz1 hM hB hg
      go_wp2_with ((with_reducible refine wpList_sel 19 ?_); refine wpList_val rfl (r_make 25 (.tmp 18) (.tmp 18) rfl rfl rfl HM1.out) ?_)
      go_loopw [10] (fun z wr => ∃ k : Nat, k ≤ n ∧ z = .int .i64 k ∧ Hid (MulM g i w wr a b n (.slice A i c) bl cs (rowTo n q (mulF a b i) k 0))) (fun z _ => n - (intOf z).toNat)
      case atStart => exact ⟨0, by omega, rfl, HST⟩
      case round =>
        obtain ⟨k, hk, rfl, HK⟩ := hrel
        have hk0 : (0 : Int) ≤ (k : Int) := Int.natCast_nonneg _
        by_cases hkl : k < n
        · have hkl' : (k : Int) < (n : Int) := by omega
          go_wp2_with fail
          go_loopw [11] (fun z wr => ∃ j : Nat, j ≤ q ∧ z = .int .i64 j ∧ Hid (MulM g i w wr a b n (.slice A i c) bl cs (rowTo n q (mulF a b i) k j))) (fun z _ => q - (intOf z).toNat)
          case atStart => exact ⟨0, by omega, rfl, HK⟩
          case round =>
            obtain ⟨j, hj, rfl, HJ⟩ := hrel
            have hj0 : (0 : Int) ≤ (j : Int) := Int.natCast_nonneg _
            by_cases hjl : j < q
            · have hjl' : (j : Int) < (q : Int) := by omega
              obtain ⟨bo, oo, rfl, hcells⟩ := HCA.out (by omega)
              obtain ⟨u, hu, hI⟩ := hcells i hlt
              obtain ⟨A1, c1, rfl, e1, e2, e3⟩ := hI.open_
              have hal : (a.getD i []).length = q := rect_row HRA.out hlt
              rw [hal] at e1 e3 hu
              obtain ⟨b1, o1, rfl, hc1⟩ := e3 (by omega)
              have hx := hc1 j hjl
              obtain ⟨bo2, oo2, rfl, hcells2⟩ := HCB.out (by omega)
              obtain ⟨u2, hu2, hI2⟩ := hcells2 j hjl
              obtain ⟨A2, c2, rfl, f1, f2, f3⟩ := hI2.open_
              have hbl : (b.getD j []).length = n := rect_row HRB.out hjl
              rw [hbl] at f1 f3 hu2
              obtain ⟨b2, o2, rfl, hc2⟩ := f3 (by omega)
              have hy := hc2 k hkl
              have hB := HJ.out.below
              have hu' := (hB.cell (p := ⟨bo, oo + i, none⟩) (World.block_lt_of_cell? w _ hu)).trans hu
              have hx' := (hB.cell (p := ⟨b1, o1 + j, none⟩) (World.block_lt_of_cell? w _ hx)).trans hx
              have hu2' := (hB.cell (p := ⟨bo2, oo2 + j, none⟩) (World.block_lt_of_cell? w _ hu2)).trans hu2
              have hy' := (hB.cell (p := ⟨b2, o2 + k, none⟩) (World.block_lt_of_cell? w _ hy)).trans hy
              have hs := HJ.out.row.cell (k := k) (by rw [rowTo_length]; exact hkl)
              rw [rowTo_getD hkl] at hs
              have hfz := HJ.out.row.frozen k
              have hset := HJ.out.set (k := k) (by rw [rowTo_length]; exact hkl) (Sm.wr (Sm.wr (sumN j (mulF a b i k)) + Sm.wr ((a.getD i []).getD j 0 * (b.getD j []).getD k 0)))
              rw [rowTo_set hkl rfl] at hset
              have HSET := Lib.hid hset
              clear hcells hI e3 hc1 hcells2 hI2 f3 hc2 hB hu hx hu2 hy hset hal hbl
              generalize (a.getD i []).getD j 0 = x at *
              generalize (b.getD j []).getD k 0 = y at *
              generalize Sm.wr (sumN j (mulF a b i k)) = s at *
              have hw1 := wr_wrap (x * y)
              have hw2 := wr_wrap64 (x * y)
              generalize Sm.wr (x * y) = m at *
              have hw3 := wr_wrap (s + m)
              have hw4 := wr_wrap64 (s + m)
              generalize Sm.wr (s + m) = z at *
              go_wp2_with fail
              go_region
              go_wp2_with fail
              go_roundw
              case rel => exact ⟨j + 1, by omega, by go_num, Lib.hid (by first | exact HSET.out | exact HSET.out.drew 1)⟩
              case measure => simp [intOf]; omega
            · obtain rfl : j = q := by omega
              have HN := HJ
              rw [rowTo_next] at HN
              go_wp2_with fail
              go_roundw
              case rel => exact ⟨k + 1, by omega, by go_num, HN⟩
              case measure => simp [intOf]; omega
        · obtain rfl : k = n := by omega
          have hrow : (mulW k a b).getD i [] = rowTo k q (mulF a b i) k 0 := by rw [mulW_row (by rw [HRA.out.1]; exact hlt), HRB.out.1]
          have hpush := HK.out.mat.push (g := g) (c := k) HK.out.below.size HK.out.row HK.out.ge (by rw [rowTo_length]; exact Nat.le_refl _) (by omega) HK.out.sep (by rw [HTL.out]; omega)
          obtain ⟨A', c', w', hr, ⟨bl', cs', hm⟩, hgr⟩ := hpush
          rw [HTL.out, rowTo_length] at hr
          rw [HTL.out, ← hrow, take_getD (mulW k a b) (by rw [HLEN.out]; exact hlt)] at hm
          have HR := Lib.hid hr
          have HN : Hid ((∃ bl cs, MatM w.heap.size w' (.slice A' (i + 1) c') bl cs ((mulW k a b).take (i + 1))) ∧ Below w.heap.size w w') := Lib.hid ⟨⟨bl', cs', hm⟩, HK.out.below.grown hgr HK.out.below.size fun r hr => (owns_block HK.out.mat.out r hr).1⟩
          clear hr hm hgr hrow
          go_wp2_with ((with_reducible refine wpList_sel 57 ?_); refine wpList_val rfl (r_app (.tmp 54) (.tmp 56) 22 rfl rfl rfl HR.out) ?_)
          go_roundw
          case rel => exact ⟨i + 1, A', c', by omega, by go_num, rfl, HN⟩
          case measure => simp [intOf]; omega
    · obtain rfl : i = p := by omega
      obtain ⟨⟨bl, cs, hM⟩, hB⟩ := HQ.out
      rw [List.take_of_length_le (by rw [HLEN.out]; exact Nat.le_refl _)] at hM
      have HR := Lib.hid (And.intro hM hB)
      clear hM hB
      go_wp2_with fail
      go_ret
      exact ⟨A, c, bl, cs, by rw [HRA.out.1]; rfl, by rw [HRA.out.1]; exact HR.out.1, HR.out.2⟩
end Go.Proofs
