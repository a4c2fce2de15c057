/- smith.Smith and smith.Group, by what they return; The law's helpers: Same, SameLists, row, is, lives; Diagonal forms, plainly: the chapter's examples; is and lives: examples of the chapter; Lists of pairs in memory; Literals of the examples; Prime powers, plainly; prime.divides and prime.Is; smith.power, and the test of Join's pairs. -/
import Derived.Test.YthfachbkcmifbaaNaCS6
import Derived.Test.YthfachbkcmifbaaNaCS2
import Derived.Maps.AppendAt
namespace Go.Proofs
open Go.RowKit Go.Shelf Go.Proofs.Sm
theorem smith11_own (w : World) (n : Int) (v : Value) (l : List (List Int)) (h : Tab w v l) {d : List Int} {u vv : Mat} {er : Int} (hE : SmE n l d u vv er) : Calls Try.prog 11 #[.int .i64 n, v] w (SmithPostD d u vv er w) := by
  rcases hE with ⟨h1, rfl, rfl, rfl, rfl⟩ | ⟨h1, h2⟩
  · exact smith_no w n v l h h1
  · obtain ⟨hn1, -, -, -⟩ := valid_of_check h1
    obtain ⟨k, rfl⟩ : ∃ k : Nat, n = (k : Int) := ⟨n.toNat, by omega⟩
    rw [Int.toNat_natCast] at h2
    rcases h2 with ⟨ho, rfl, rfl, rfl, rfl⟩ | ⟨s, ho, rfl, rfl, rfl, rfl⟩
    · exact smith_over w k v l h h1 none ho
    · exact smith_over w k v l h h1 (some s) ho
theorem smith11_any (w : World) (n : Int) (v : Value) (l : List (List Int)) (h : Tab w v l) {d : List Int} {u vv : Mat} {er : Int} (hE : SmE n l d u vv er) : Calls Try.prog 11 #[.int .i64 n, v] w (SmithPost d u vv er w) :=
  (smith11_own w n v l h hE).mono fun _ _ ⟨⟨vd, vu, vv, h1, h2, h3, h4, _⟩, hb⟩ => ⟨⟨vd, vu, vv, h1, h2, h3, h4⟩, hb⟩
theorem eg40 : ∀ args w, (callFunc 40 args).run Try.prog w = .ok (.enter 40 args) w := enters_of Try.func40 (by kernel_rfl) rfl
theorem pred40 (W : World) : PredW 40 #[] (fun _ => True) (fun x => x == 1) W := fun x q _ => by
  show Calls Try.prog 40 #[.int .i64 x] (W.drewN q) _
  go_enter Try.func40, Try.ntmps40
  go_wp2_with fail
  go_ret
  exact ⟨rfl, q, rfl⟩
theorem delete39_own (base : Nat) (w : World) (v : Value) (xs : List Int) (h : OwnI base w v xs) (_hbw : base ≤ w.heap.size) (hf : Fits xs) :
    Calls Try.prog 39 #[v, .func (.func 40) #[] #[]] w (DelPost (xs.filter fun x => !(x == 1)) base w) := by
  obtain ⟨A, c, rfl⟩ := owns_form h
  rcases Nat.eq_zero_or_pos xs.length with h0 | h0
  · obtain rfl : xs = [] := List.length_eq_zero_iff.1 h0
    have hI : IntsAt w (.slice A 0 c) [] := OwnI.ints h hf
    have HIDX := Lib.hid (idx60_at 40 #[] (fun _ => True) (fun x => x == 1) w eg40 (pred40 w) (.slice A 0 c) [] hI (fun _ _ => trivial))
    have HI := Lib.hid hI
    clear h hI h0
    show Calls Try.prog 39 #[.slice A 0 c, .func (.func 40) #[] #[]] w _
    go_enter Try.func39, Try.ntmps39
    go_wp2_with fail
    refine HIDX.out.mono ?_
    rintro e w1 ⟨hidx, q, rfl⟩
    rcases hidx with ⟨rfl, -⟩ | ⟨k, -, hk, -⟩
    · go_wp2_with fail
      go_ret
      exact ⟨⟨_, rfl, HI.out.drewN _⟩, below_drewN (Below.refl _ _) _⟩
    · exact absurd hk (Nat.not_lt_zero _)
  · obtain ⟨g, rfl, hx, hg, hc1, hc2⟩ := owns_xs h h0
    exact delete39_any base 40 (fun _ => True) (fun x => x == 1) w eg40 pred40 g c xs hx hg hc1 hc2 hf (fun _ _ => trivial)
/-- what Group returns -/
def GrE (n : Int) (l : Mat) (t : List Int) (free er : Int) : Prop := ∃ d u v e, SmE n l d u v e ∧ ((e ≠ 0 ∧ t = [] ∧ free = 0 ∧ er = e) ∨ (e = 0 ∧ t = (d.filter fun x => !(x == 1)) ∧ free = n - d.length ∧ er = 0))
theorem smE_bd {n : Int} {l : Mat} {d : List Int} {u v : Mat} (h : SmE n l d u v 0) : 1 ≤ n ∧ n ≤ 16 ∧ d.length ≤ 16 := by
  rcases h with ⟨h1, -, -, -, h2⟩ | ⟨h1, h2⟩
  · exact absurd h2.symm h1
  · obtain ⟨a, b, c, hv⟩ := valid_of_check h1
    rcases h2 with ⟨-, -, -, -, h3⟩ | ⟨s, ho, rfl, -, -, -⟩
    · omega
    · have := (out_end hv ho).tn
      rw [length_diagOf]
      exact ⟨a, b, by omega⟩
def GroupPost (t : List Int) (free er : Int) (w : World) (e : Ending) (w' : World) : Prop := (∃ v, e = .returned (.tuple #[v, .int .i64 free, .int .i64 er]) ∧ IntsAt w' v t) ∧ Below w.heap.size w w'
set_option maxRecDepth 100000 in
set_option maxHeartbeats 1000000 in
theorem group13_any (w : World) (n : Int) (v : Value) (l : List (List Int)) (h : Tab w v l) {t : List Int} {free er : Int} (hE : GrE n l t free er) : Calls Try.prog 13 #[.int .i64 n, v] w (GroupPost t free er w) := by
  obtain ⟨d, u, vv, e, hS, hcase⟩ := hE
  have HS := Lib.hid (smith11_any w n v l h hS)
  obtain ⟨A0, c0, rfl, -, -, -⟩ := h.open_
  clear h
  rcases hcase with ⟨h0, rfl, rfl, rfl⟩ | ⟨rfl, rfl, rfl, rfl⟩
  · have hd : (er != 0) = true := by simpa using h0
    clear hS h0
    go_enter Try.func13, Try.ntmps13
    go_wp2_with (go_at_call 11; (refine HS.out.mono ?_); rintro e w1 ⟨⟨vd, vu, vv, rfl, hd, hu, hv⟩, hb⟩; obtain ⟨Ad, cd, rfl, -, -, -⟩ := hd.open_; obtain ⟨Au, cu, rfl, -, -, -⟩ := LAt.open_ hu; obtain ⟨Av, cv, rfl, -, -, -⟩ := LAt.open_ hv; have HB := Lib.hid hb; clear hd hu hv hb)
    go_ret3
    exact ⟨⟨_, rfl, intsAt_nil⟩, HB.out⟩
  · obtain ⟨b1, b2, b3⟩ := smE_bd hS
    clear hS
    have hdl : (d.length : Int) ≤ 16 := by omega
    go_enter Try.func13, Try.ntmps13
    go_wp2_with fail
    refine HS.out.mono ?_
    rintro e w1 ⟨⟨vd, vu, vv', rfl, hd, hu, hv⟩, hb⟩
    obtain ⟨Ad, cd, rfl, -, -, -⟩ := id hd.open_
    obtain ⟨Au, cu, rfl, -, -, -⟩ := LAt.open_ hu
    obtain ⟨Av, cv, rfl, -, -, -⟩ := LAt.open_ hv
    have HCL := Lib.hid (clone34_any w1 (.slice Ad d.length cd) d hd (by omega))
    have HDF := Lib.hid hd.2
    have HB := Lib.hid hb
    clear hd hu hv hb
    go_wp2_with (first
      | (go_at_call 34; (refine HCL.out.mono ?_); rintro e w2 ⟨A2, c2, rfl, ho2, hb2⟩; have HDEL := Lib.hid (delete39_own w1.heap.size w2 _ d ho2 hb2.size HDF.out); have HB2 := Lib.hid (HB.out.trans (hb2.mono HB.out.size)); clear ho2 hb2)
      | (go_at_call 39; (refine HDEL.out.mono ?_); rintro e w3 ⟨⟨vt, rfl, ht⟩, hb3⟩; obtain ⟨At, ct, rfl, -, -, -⟩ := id ht.open_; have HT := Lib.hid ht; have HB3 := Lib.hid (HB2.out.trans (hb3.mono HB.out.size)); clear ht hb3))
    go_ret3
    exact ⟨⟨_, rfl, HT.out⟩, HB3.out⟩
end Go.Proofs
namespace Go.Proofs
open Go.RowKit Go.Shelf Go.Proofs.Sm
set_option maxRecDepth 100000 in
set_option maxHeartbeats 400000 in
theorem same17_any (w : World) (va vb : Value) (x y : List Int) (ha : IntsAt w va x) (hb : IntsAt w vb y) :
    Calls Try.prog 17 #[va, vb] w fun e w' => e = .returned (.bool (decide (x = y))) ∧ ∃ q, w' = w.drewN q := by
  obtain ⟨A3, c3, rfl, hd1, hd2, hd⟩ := ha.open_
  obtain ⟨A4, c4, rfl, he1, he2, he⟩ := hb.open_
  have HD := Lib.hid hd
  have HE := Lib.hid he
  clear ha hb hd he
  have HN := Lib.hid (fun (h : x.length ≠ y.length) (e : x = y) => h (by rw [e]))
  by_cases hxy : x.length = y.length
  · have d3 : ((x.length : Int) != (y.length : Int)) = false := by simp; omega
    have d4 : (x.length != y.length) = false := by simp; omega
    have HX := Lib.hid hxy
    clear hxy
    go_enter Try.func17, Try.ntmps17
    go_wp2_with fail
    go_loopw [5] (fun i wr => ∃ j : Nat, j ≤ x.length ∧ i = .int .i64 j ∧ (∀ t, t < j → x.getD t 0 = y.getD t 0) ∧ ∃ q, wr = w.drewN q) (fun i _ => x.length - (intOf i).toNat)
    case atStart => exact ⟨0, Nat.zero_le _, rfl, fun j hj => absurd hj (by omega), 0, rfl⟩
    case round =>
      obtain ⟨j, hj, rfl, hzj, qj, rfl⟩ := hrel
      have HZJ := Lib.hid hzj
      clear hzj
      by_cases hjl : j < x.length
      · obtain ⟨b3, o3, rfl, hx⟩ := HD.out (by omega)
        obtain ⟨b4, o4, rfl, hy⟩ := HE.out (by rw [← HX.out]; omega)
        have hx1 := hx j hjl
        have hy1 := hy j (by rw [← HX.out]; omega)
        have hj0 : (0 : Int) ≤ (j : Int) := Int.natCast_nonneg _
        have hjb : (j : Int) < (y.length : Int) := by rw [← HX.out]; omega
        have hja : (j : Int) < (x.length : Int) := by omega
        have HM := Lib.hid (fun h => getD_ne (A := x) (B := y) (d := 0) (k := j) h)
        clear hx hy
        generalize hse : x.getD j 0 = s at *
        generalize hte : y.getD j 0 = t at *
        have HSE := Lib.hid hse
        have HTE := Lib.hid hte
        clear hse hte
        by_cases hst : s = t
        · have d5 : (s != t) = false := by simpa using hst
          have HS := Lib.hid hst
          clear hst
          go_wp2_with fail
          go_quiet (fail)
          go_wp2_with fail
          go_roundw
          case rel => exact ⟨j + 1, by omega, by go_num, all_succ HZJ.out (by rw [HSE.out, HTE.out]; exact HS.out), (by first | exact ⟨_, rfl⟩ | exact ex_drewN)⟩
          case measure => simp [intOf]; omega
        · have d5 : (s != t) = true := by simpa using hst
          have HS := Lib.hid hst
          clear hst
          go_wp2_with fail
          go_quiet (fail)
          go_wp2_with fail
          go_ret
          exact ⟨ret_bool (by simpa using HM.out HS.out), (by first | exact ⟨_, rfl⟩ | exact ex_drewN)⟩
      · obtain rfl : j = x.length := by omega
        go_wp2_with fail
        go_ret
        exact ⟨ret_bool (by simpa using getD_ext HX.out HZJ.out), (by first | exact ⟨_, rfl⟩ | exact ex_drewN)⟩
  · have d3 : ((x.length : Int) != (y.length : Int)) = true := by simp; omega
    have d4 : (x.length != y.length) = true := by simp; omega
    have HX := Lib.hid hxy
    clear hxy
    go_enter Try.func17, Try.ntmps17
    go_wp2_with fail
    go_ret
    exact ⟨ret_bool (by simpa using HN.out HX.out), 0, rfl⟩
theorem quiet_more {P : Program} {f : FuncId} {args : Array Value} {w : World} {a n : Nat} {v : Value}
    (h : Calls P f args (w.drewN (a + n)) fun e w' => e = .returned v ∧ ∃ q, w' = (w.drewN (a + n)).drewN q) :
    Calls P f args (w.drewN (a + n)) fun e w'' => e = .returned v ∧ ∃ m, w'' = w.drewN (a + m) :=
  h.mono fun _ _ ⟨he, q, hq⟩ => ⟨he, n + q, by rw [hq, World.drewN_drewN, Nat.add_assoc]⟩
theorem quiet_more0 {P : Program} {f : FuncId} {args : Array Value} {w : World} {n : Nat} {v : Value}
    (h : Calls P f args (w.drewN n) fun e w' => e = .returned v ∧ ∃ q, w' = (w.drewN n).drewN q) :
    Calls P f args (w.drewN n) fun e w'' => e = .returned v ∧ ∃ m, w'' = w.drewN m :=
  h.mono fun _ _ ⟨he, q, hq⟩ => ⟨he, n + q, by rw [hq, World.drewN_drewN]⟩
set_option maxRecDepth 100000 in
set_option maxHeartbeats 400000 in
theorem sameLists18_any (w : World) (va vb : Value) (A B : List (List Int)) (ha : Tab w va A) (hb : Tab w vb B) :
    Calls Try.prog 18 #[va, vb] w fun e w' => e = .returned (.bool (decide (A = B))) ∧ ∃ q, w' = w.drewN q := by
  obtain ⟨A0, ca, rfl, ha1, ha2, ha3⟩ := ha.open_
  obtain ⟨B0, cb, rfl, hb1, hb2, hb3⟩ := hb.open_
  have HA := Lib.hid ha3
  have HB := Lib.hid hb3
  clear ha hb ha3 hb3
  by_cases hl : A.length = B.length
  · have d1 : ((A.length : Int) != (B.length : Int)) = false := by simp; omega
    have d2 : (A.length != B.length) = false := by simp; omega
    have HL := Lib.hid hl
    clear hl
    go_enter Try.func18, Try.ntmps18
    go_wp2_with fail
    go_loopw [5] (fun i wr => ∃ k : Nat, k ≤ A.length ∧ i = .int .i64 k ∧ (∀ j, j < k → A.getD j [] = B.getD j []) ∧ ∃ q, wr = w.drewN q) (fun i _ => A.length - (intOf i).toNat)
    case atStart => exact ⟨0, Nat.zero_le _, rfl, fun j hj => absurd hj (by omega), 0, rfl⟩
    case round =>
      obtain ⟨k, hk, rfl, hz, q, rfl⟩ := hrel
      have HZ := Lib.hid hz
      clear hz
      by_cases hlt : k < A.length
      · obtain ⟨b1, o1, rfl, hc1⟩ := HA.out (by omega)
        obtain ⟨b2, o2, rfl, hc2⟩ := HB.out (by rw [← HL.out]; omega)
        obtain ⟨u1, hu1, hr1⟩ := hc1 k hlt
        obtain ⟨u2, hu2, hr2⟩ := hc2 k (by rw [← HL.out]; omega)
        obtain ⟨A3, c3, rfl, -, -, -⟩ := id hr1.open_
        obtain ⟨A4, c4, rfl, -, -, -⟩ := id hr2.open_
        have hk0 : (0 : Int) ≤ (k : Int) := Int.natCast_nonneg _
        have hkb : (k : Int) < (B.length : Int) := by rw [← HL.out]; omega
        have hka : (k : Int) < (A.length : Int) := by omega
        have HN := Lib.hid (fun h => getD_ne (A := A) (B := B) (d := []) (k := k) h)
        have HSM : Hid (∀ q, Calls Try.prog 17 #[.slice A3 (A.getD k []).length c3, .slice A4 (B.getD k []).length c4] (w.drewN q) fun e w' => e = .returned (.bool (decide (A.getD k [] = B.getD k []))) ∧ ∃ q', w' = (w.drewN q).drewN q') := Lib.hid fun q => same17_any (w.drewN q) _ _ _ _ (hr1.drewN q) (hr2.drewN q)
        generalize hxe : A.getD k [] = x at *
        generalize hye : B.getD k [] = y at *
        have HXE := Lib.hid hxe
        have HYE := Lib.hid hye
        clear hxe hye hc1 hc2 hr1 hr2
        by_cases hxy : x = y
        · have hd : decide (x = y) = true := decide_eq_true hxy
          rw [hd] at HSM
          have HXY := Lib.hid hxy
          clear hxy hd
          generalize x.length = lx at *
          generalize y.length = ly at *
          go_wp2_with fail
          go_quiet ((go_at_call 17; first | exact quiet_more (HSM.out _) | exact quiet_more0 (HSM.out _)))
          go_wp2_with fail
          go_roundw
          case rel => exact ⟨k + 1, by omega, by go_num, all_succ HZ.out (by rw [HXE.out, HYE.out]; exact HXY.out), (by first | exact ⟨_, rfl⟩ | exact ex_drewN)⟩
          case measure => simp [intOf]; omega
        · have hd : decide (x = y) = false := decide_eq_false hxy
          rw [hd] at HSM
          have HXY := Lib.hid hxy
          clear hxy hd
          generalize x.length = lx at *
          generalize y.length = ly at *
          go_wp2_with fail
          go_quiet ((go_at_call 17; first | exact quiet_more (HSM.out _) | exact quiet_more0 (HSM.out _)))
          go_wp2_with fail
          go_ret
          exact ⟨ret_bool (by simpa using HN.out HXY.out), (by first | exact ⟨_, rfl⟩ | exact ex_drewN)⟩
      · obtain rfl : k = A.length := by omega
        go_wp2_with fail
        go_ret
        exact ⟨ret_bool (by simpa using getD_ext HL.out HZ.out), _, rfl⟩
  · have d1 : ((A.length : Int) != (B.length : Int)) = true := by simp; omega
    have d2 : (A.length != B.length) = true := by simp; omega
    have HL := Lib.hid hl
    clear hl
    go_enter Try.func18, Try.ntmps18
    go_wp2_with fail
    go_ret
    exact ⟨ret_bool (by simpa using fun e => HL.out (by rw [e])), 0, rfl⟩
theorem row32_any (w : World) (A : Option Addr) (n c : Nat) : Calls Try.prog 32 #[.slice A n c] w fun e w' => e = .returned (.slice A n c) ∧ w = w' := by
  go_enter Try.func32, Try.ntmps32
  go_wp2_with fail
  go_ret
  exact ⟨rfl, rfl⟩
end Go.Proofs
namespace Go.Proofs.Sm
theorem out_two : Out 2 [[2, 4], [6, 8]] (some ⟨[[2, 0], [0, 4]], [[1, 0], [3, -1]], [[1, -2], [0, 1]], 2⟩) := ⟨20, by rfl⟩
theorem out_six : Out 2 [[6, 0], [0, 4]] (some ⟨[[2, 0], [0, 12]], [[1, 1], [2, 3]], [[1, -2], [-1, 3]], 2⟩) := ⟨20, by rfl⟩
theorem out_nought : Out 2 [[0, 0]] (some ⟨[[0, 0]], [[1]], [[1, 0], [0, 1]], 0⟩) := ⟨20, by rfl⟩
theorem out_none : Out 1 [] (some ⟨[], [], [[1]], 0⟩) := ⟨20, by rfl⟩
theorem out_five : Out 3 [[0, 0, 5]] (some ⟨[[5, 0, 0]], [[1]], [[0, 0, 1], [0, 1, 0], [1, 0, 0]], 1⟩) := ⟨20, by rfl⟩
theorem out_one : Out 2 [[1, 0], [0, -1]] (some ⟨[[1, 0], [0, 1]], [[1, 0], [0, -1]], [[1, 0], [0, 1]], 2⟩) := ⟨20, by rfl⟩
theorem out_abel : Out 2 [[2, 0], [0, 0], [0, 3]] (some ⟨[[1, 0], [0, 6], [0, 0]], [[1, 0, 1], [3, 0, 2], [0, 1, 0]], [[-1, 3], [1, -2]], 2⟩) := ⟨20, by rfl⟩
end Go.Proofs.Sm
namespace Go.Proofs
open Go.RowKit Go.Shelf Go.Proofs.Sm
theorem is30_true (w : World) (va vb : Value) (x : List Int) (free : Int) (ha : IntsAt w va x) (hb : IntsAt w vb x) :
    Calls Try.prog 30 #[va, .int .i64 free, .int .i64 0, .int .i64 free, vb] w fun e w' => e = .returned (.bool true) ∧ ∃ q, w' = w.drewN q := by
  have hs := same17_any w va vb x x ha hb
  rw [decide_eq_true rfl] at hs
  have HS := Lib.hid hs
  have hd : (free == free) = true := by simp
  obtain ⟨A3, c3, rfl, -, -, -⟩ := ha.open_
  obtain ⟨A4, c4, rfl, -, -, -⟩ := hb.open_
  clear ha hb hs
  generalize x.length = lx at *
  go_enter Try.func30, Try.ntmps30
  go_wp2_with (go_at_call 17; (refine HS.out.mono ?_); rintro e w' ⟨rfl, q, rfl⟩)
  go_ret
  exact ⟨rfl, _, rfl⟩
/-- two numbers in a block just laid -/
theorem ints_two {w : World} {B : Nat} {a b : Int} (h : w.heap[B]? = some (.cells #[.int .i64 a, .int .i64 b] 3 (0, 0))) (ha : In64 a) (hb : In64 b) : IntsAt w (.slice (some ⟨B, 0, none⟩) 2 2) [a, b] := by
  refine ⟨⟨_, 2, 2, rfl, rfl, Nat.le_refl _, by simp [maxLen], fun _ => ⟨B, 0, rfl, fun j v hv => ?_⟩⟩, fun z hz => ?_⟩
  · rw [cell_of_row _ _ _ _ _ _ h, Nat.zero_add, ← hv]
    have : j = 0 ∨ j = 1 := by
      have := (List.getElem?_eq_some_iff.1 hv).1
      simp [ints] at this; omega
    rcases this with rfl | rfl <;> rfl
  · rcases List.mem_cons.1 hz with rfl | hz
    · exact ha
    · rcases List.mem_cons.1 hz with rfl | hz
      · exact hb
      · cases hz
/-- two rows in a block just laid -/
theorem tab_two {w : World} {B : Nat} {u v : Value} {x y : List Int} (h : w.heap[B]? = some (.cells #[u, v] 25 (0, 0))) (hu : IntsAt w u x) (hv : IntsAt w v y) : Tab w (.slice (some ⟨B, 0, none⟩) 2 2) [x, y] := by
  refine ⟨[u, v], ⟨_, 2, 2, rfl, rfl, Nat.le_refl _, by simp [maxLen], fun _ => ⟨B, 0, rfl, fun j z hz => ?_⟩⟩, rfl, fun i hi => ?_⟩
  · rw [cell_of_row _ _ _ _ _ _ h, Nat.zero_add]
    simpa using hz
  · have : i = 0 ∨ i = 1 := by simp at hi; omega
    rcases this with rfl | rfl
    · exact ⟨u, rfl, hu⟩
    · exact ⟨v, rfl, hv⟩
/-- a literal of two rows of two numbers -/
def lit22 (w : World) (a b c e : Int) : World := ((w.alloc (.cells #[.int .i64 a, .int .i64 b] 3)).alloc (.cells #[.int .i64 c, .int .i64 e] 3)).alloc (.cells #[.slice (some ⟨w.heap.size, 0, none⟩) 2 2, .slice (some ⟨w.heap.size + 1, 0, none⟩) 2 2] 25)
theorem lit22_below (w : World) (a b c e : Int) : Below w.heap.size w (lit22 w a b c e) := (((Below.refl _ _).alloc (Nat.le_refl _) _).alloc (by simp) _).alloc (by simp; omega) _
theorem lit22_tab (w : World) {a b c e : Int} (ha : In64 a) (hb : In64 b) (hc : In64 c) (he : In64 e) : Tab (lit22 w a b c e) (.slice (some ⟨w.heap.size + 1 + 1, 0, none⟩) 2 2) [[a, b], [c, e]] := by
  have h0 := heap_alloc_new w (.cells #[.int .i64 a, .int .i64 b] 3)
  have h1 := heap_alloc_new (w.alloc (.cells #[.int .i64 a, .int .i64 b] 3)) (.cells #[.int .i64 c, .int .i64 e] 3)
  rw [World.size_alloc] at h1
  have k1 := (Below.refl (w.alloc (.cells #[.int .i64 a, .int .i64 b] 3)).heap.size (w.alloc (.cells #[.int .i64 a, .int .i64 b] 3))).alloc (Nat.le_refl _) (.cells #[.int .i64 c, .int .i64 e] 3)
  have k2 := (Below.refl ((w.alloc (.cells #[.int .i64 a, .int .i64 b] 3)).alloc (.cells #[.int .i64 c, .int .i64 e] 3)).heap.size ((w.alloc (.cells #[.int .i64 a, .int .i64 b] 3)).alloc (.cells #[.int .i64 c, .int .i64 e] 3))).alloc (Nat.le_refl _) (.cells #[.slice (some ⟨w.heap.size, 0, none⟩) 2 2, .slice (some ⟨w.heap.size + 1, 0, none⟩) 2 2] 25)
  have h2 := heap_alloc_new ((w.alloc (.cells #[.int .i64 a, .int .i64 b] 3)).alloc (.cells #[.int .i64 c, .int .i64 e] 3)) (.cells #[.slice (some ⟨w.heap.size, 0, none⟩) 2 2, .slice (some ⟨w.heap.size + 1, 0, none⟩) 2 2] 25)
  rw [World.size_alloc, World.size_alloc] at h2
  rw [World.size_alloc] at k1
  rw [World.size_alloc, World.size_alloc] at k2
  exact tab_two h2 (ints_two ((k2.block _ (by omega)).trans ((k1.block _ (by omega)).trans h0)) ha hb) (ints_two ((k2.block _ (by omega)).trans h1) hc he)
theorem smE_two : SmE 2 [[2, 4], [6, 8]] [2, 4] [[1, 0], [3, -1]] [[1, -2], [0, 1]] 0 := .inr ⟨by decide, .inr ⟨_, out_two, rfl, rfl, rfl, rfl⟩⟩
theorem grE_six : GrE 2 [[6, 0], [0, 4]] [2, 12] 0 0 := ⟨[2, 12], _, _, 0, .inr ⟨by decide, .inr ⟨_, out_six, rfl, rfl, rfl, rfl⟩⟩, .inr ⟨rfl, rfl, rfl, rfl⟩⟩
theorem in64_small {x : Int} (h : -1000 ≤ x ∧ x ≤ 1000) : In64 x := by unfold In64; omega
set_option maxRecDepth 100000 in
set_option maxHeartbeats 1000000 in
theorem lives9_any (w : World) : Calls Try.prog 9 #[] w fun e w' => e = .returned (.bool true) ∧ Below w.heap.size w w' := by
  have HS := Lib.hid (smith11_any (lit22 w 2 4 6 8) 2 _ _ (lit22_tab w (in64_small (by omega)) (in64_small (by omega)) (in64_small (by omega)) (in64_small (by omega))) smE_two)
  have HG : Hid (∀ W, Calls Try.prog 13 #[.int .i64 2, .slice (some ⟨W.heap.size + 1 + 1, 0, none⟩) 2 2] (lit22 W 6 0 0 4) (GroupPost [2, 12] 0 0 (lit22 W 6 0 0 4))) := Lib.hid fun W => group13_any (lit22 W 6 0 0 4) 2 _ _ (lit22_tab W (in64_small (by omega)) (in64_small (by omega)) (in64_small (by omega)) (in64_small (by omega))) grE_six
  have HR := Lib.hid row32_any
  have HB0 := Lib.hid (lit22_below w 2 4 6 8)
  unfold lit22 at HS HG
  go_enter Try.func9, Try.ntmps9
  go_wp2_with (first
    | (go_at_call 11; (refine HS.out.mono ?_); rintro e w1 ⟨⟨vd, vu, vv, rfl, hd, hu, hv⟩, hb⟩
       obtain ⟨Ad, cd, rfl, -, -, -⟩ := id hd.open_
       obtain ⟨Au, cu, rfl, -, -, -⟩ := LAt.open_ hu
       obtain ⟨Av, cv, rfl, -, -, -⟩ := LAt.open_ hv
       have HB1 := Lib.hid (HB0.out.trans (hb.mono HB0.out.size))
       have H17 : Hid (∀ W, Below w1.heap.size w1 W → Calls Try.prog 17 #[.slice Ad 2 cd, .slice (some ⟨W.heap.size, 0, none⟩) 2 2] (W.alloc (.cells #[.int .i64 2, .int .i64 4] 3)) fun e w' => e = .returned (.bool true) ∧ Below W.heap.size W w') := Lib.hid fun W hW =>
         (same17_any (W.alloc (.cells #[.int .i64 2, .int .i64 4] 3)) _ _ [2, 4] [2, 4] (kept_ints.below hd (hW.alloc hW.size _)) (ints_two (heap_alloc_new W _) (in64_small (by omega)) (in64_small (by omega)))).mono fun e w' ⟨h1, q, h2⟩ => ⟨h1, by rw [h2]; exact below_drewN ((Below.refl _ _).alloc (Nat.le_refl _) _) q⟩
       have H18u : Hid (∀ W, Below w1.heap.size w1 W → Calls Try.prog 18 #[.slice Au 2 cu, .slice (some ⟨W.heap.size + 1 + 1, 0, none⟩) 2 2] (lit22 W 1 0 3 (-1)) fun e w' => e = .returned (.bool true) ∧ Below W.heap.size W w') := Lib.hid fun W hW =>
         (sameLists18_any (lit22 W 1 0 3 (-1)) _ _ [[1, 0], [3, -1]] [[1, 0], [3, -1]] (kept_tab.below hu (hW.trans ((lit22_below W 1 0 3 (-1)).mono hW.size))) (lit22_tab W (in64_small (by omega)) (in64_small (by omega)) (in64_small (by omega)) (in64_small (by omega)))).mono fun e w' ⟨h1, q, h2⟩ => ⟨h1, by rw [h2]; exact below_drewN (lit22_below W 1 0 3 (-1)) q⟩
       have H18v : Hid (∀ W, Below w1.heap.size w1 W → Calls Try.prog 18 #[.slice Av 2 cv, .slice (some ⟨W.heap.size + 1 + 1, 0, none⟩) 2 2] (lit22 W 1 (-2) 0 1) fun e w' => e = .returned (.bool true) ∧ Below W.heap.size W w') := Lib.hid fun W hW =>
         (sameLists18_any (lit22 W 1 (-2) 0 1) _ _ [[1, -2], [0, 1]] [[1, -2], [0, 1]] (kept_tab.below hv (hW.trans ((lit22_below W 1 (-2) 0 1).mono hW.size))) (lit22_tab W (in64_small (by omega)) (in64_small (by omega)) (in64_small (by omega)) (in64_small (by omega)))).mono fun e w' ⟨h1, q, h2⟩ => ⟨h1, by rw [h2]; exact below_drewN (lit22_below W 1 (-2) 0 1) q⟩
       unfold lit22 at H18u H18v
       clear hd hu hv hb)
    | (go_at_call 13; (refine (HG.out _).mono ?_); rintro e w2 ⟨⟨vt, rfl, ht⟩, hb⟩
       obtain ⟨At, ct, rfl, -, -, -⟩ := id ht.open_
       have HB2 := Lib.hid ((lit22_below w1 6 0 0 4).trans (hb.mono (lit22_below w1 6 0 0 4).size))
       have H30 : Hid (∀ W, Below w2.heap.size w2 W → Calls Try.prog 30 #[.slice At 2 ct, .int .i64 0, .int .i64 0, .int .i64 0, .slice (some ⟨W.heap.size, 0, none⟩) 2 2] (W.alloc (.cells #[.int .i64 2, .int .i64 12] 3)) fun e w' => e = .returned (.bool true) ∧ Below W.heap.size W w') := Lib.hid fun W hW =>
         (is30_true (W.alloc (.cells #[.int .i64 2, .int .i64 12] 3)) _ _ [2, 12] 0 (kept_ints.below ht (hW.alloc hW.size _)) (ints_two (heap_alloc_new W _) (in64_small (by omega)) (in64_small (by omega)))).mono fun e w' ⟨h1, q, h2⟩ => ⟨h1, by rw [h2]; exact below_drewN ((Below.refl _ _).alloc (Nat.le_refl _) _) q⟩
       clear ht hb)
    | (go_at_call 32; (refine (HR.out _ _ _ _).mono ?_); rintro e w' ⟨rfl, rfl⟩)
    | (go_at_call 17; (refine (H17.out w2 HB2.out).mono ?_); rintro e w3 ⟨rfl, hb⟩; have HB3 := Lib.hid hb; clear hb)
    | (go_at_call 18; (with_reducible refine (H18u.out w3 (HB2.out.trans (HB3.out.mono HB2.out.size))).mono ?_); rintro e w4 ⟨rfl, hb⟩; have HB4 := Lib.hid (HB3.out.trans (hb.mono HB3.out.size)); clear hb)
    | (go_at_call 18; (with_reducible refine (H18v.out w4 (HB2.out.trans (HB4.out.mono HB2.out.size))).mono ?_); rintro e w5 ⟨rfl, hb⟩; have HB5 := Lib.hid (HB4.out.trans (hb.mono HB4.out.size)); clear hb)
    | (go_at_call 30; (refine (H30.out w5 HB5.out).mono ?_); rintro e w6 ⟨rfl, hb⟩; have HB6 := Lib.hid (HB5.out.trans (hb.mono HB5.out.size)); clear hb))
  go_ret
  exact ⟨rfl, HB1.out.trans ((HB2.out.trans (HB6.out.mono HB2.out.size)).mono HB1.out.size)⟩
end Go.Proofs
namespace Go.Proofs
open Go.RowKit Go.Shelf Go.Proofs.Sm
abbrev Pr := Int × Int
def pcell (p : Pr) : List Value := [.int .i64 p.1, .int .i64 p.2]
def pcells (ps : List Pr) : List Value := ps.flatMap pcell
theorem pcells_length (ps : List Pr) : (pcells ps).length = ps.length * 2 := by
  induction ps with
  | nil => rfl
  | cons p ps ih =>
    have : pcells (p :: ps) = pcell p ++ pcells ps := rfl
    rw [this, List.length_append, ih]
    simp [pcell]; omega
theorem pcells_app (ps qs : List Pr) : pcells (ps ++ qs) = pcells ps ++ pcells qs := by simp [pcells]
theorem pcells_get : ∀ (ps : List Pr) (j : Nat), j < ps.length → (pcells ps)[j * 2]? = some (.int .i64 (ps.getD j (0, 0)).1) ∧ (pcells ps)[j * 2 + 1]? = some (.int .i64 (ps.getD j (0, 0)).2)
  | [], j, h => absurd h (by simp)
  | p :: ps, 0, _ => ⟨rfl, rfl⟩
  | p :: ps, j + 1, h => by
    have ih := pcells_get ps j (by simpa using h)
    have : pcells (p :: ps) = pcell p ++ pcells ps := rfl
    rw [this, show (j + 1) * 2 = j * 2 + 2 by omega, show j * 2 + 2 + 1 = (j * 2 + 1) + 2 by omega]
    constructor
    · rw [List.getElem?_append_right (by simp [pcell])]
      simpa [pcell] using ih.1
    · rw [List.getElem?_append_right (by simp [pcell])]
      simpa [pcell] using ih.2
theorem pcells_one {ps : List Pr} : ∀ u ∈ pcells ps, u.oneCell' = true := fun u hu => by
  obtain ⟨p, -, hp⟩ := List.mem_flatMap.1 hu
  simp only [pcell, List.mem_cons, List.not_mem_nil, or_false] at hp
  rcases hp with rfl | rfl <;> rfl
def PFits (ps : List Pr) : Prop := ∀ p ∈ ps, In64 p.1 ∧ In64 p.2
abbrev OwnP (base : Nat) (w : World) (v : Value) (ps : List Pr) : Prop := w.ownsRow base 56 2 v ps.length (pcells ps)
/-- a list of pairs that may be read -/
def PrsAt (w : World) (v : Value) (ps : List Pr) : Prop := ∃ A cap, v = .slice A ps.length cap ∧ ps.length ≤ cap ∧ cap ≤ 9223372036854775807 ∧ (0 < ps.length → ∃ b off, A = some ⟨b, off, none⟩ ∧ ∀ j u, (pcells ps)[j]? = some u → w.cell? ⟨b, off + j, none⟩ = some u)
section
variable {w w' : World} {v : Value} {ps qs : List Pr} {base : Nat}
theorem PrsAt.at_ (h : PrsAt w v ps) : ∃ A cap, v = .slice A ps.length cap ∧ ps.length ≤ cap ∧ cap ≤ 9223372036854775807 ∧ (0 < ps.length → ∃ b off, A = some ⟨b, off, none⟩ ∧ ∀ k, k < ps.length → w.cell? ⟨b, off + k * 2, none⟩ = some (.int .i64 (ps.getD k (0, 0)).1) ∧ w.cell? ⟨b, off + k * 2 + 1, none⟩ = some (.int .i64 (ps.getD k (0, 0)).2)) := by
  obtain ⟨A, cap, h1, h2, h3, h4⟩ := h
  refine ⟨A, cap, h1, h2, h3, fun h0 => ?_⟩
  obtain ⟨b, off, e, hc⟩ := h4 h0
  refine ⟨b, off, e, fun k hk => ?_⟩
  obtain ⟨g1, g2⟩ := pcells_get ps k hk
  exact ⟨hc _ _ g1, by rw [Nat.add_assoc]; exact hc _ _ g2⟩
theorem PrsAt.keep (h : PrsAt w v ps) (hk : ∀ p u, w.cell? p = some u → w'.cell? p = some u) : PrsAt w' v ps := by
  obtain ⟨A, cap, h1, h2, h3, h4⟩ := h
  exact ⟨A, cap, h1, h2, h3, fun h0 => let ⟨b, off, e, hc⟩ := h4 h0; ⟨b, off, e, fun j u hu => hk _ _ (hc j u hu)⟩⟩
theorem PrsAt.below (h : PrsAt w v ps) (hb : Below w.heap.size w w') : PrsAt w' v ps := by
  obtain ⟨A, cap, h1, h2, h3, h4⟩ := h
  exact ⟨A, cap, h1, h2, h3, fun h0 => let ⟨b, off, e, hc⟩ := h4 h0; ⟨b, off, e, fun j u hu => (hb.cell (p := ⟨b, off + j, none⟩) (World.block_lt_of_cell? w _ (hc j u hu))).trans (hc j u hu)⟩⟩
theorem prsAt_nil (w : World) : PrsAt w (.slice none 0 0) [] := ⟨none, 0, rfl, Nat.le_refl _, by omega, fun h => absurd h (by simp)⟩
theorem OwnP.nil (base : Nat) (w : World) : OwnP base w (.slice none 0 0) [] := World.ownsRow_nil _ _ _ _
theorem OwnP.form (h : OwnP base w v ps) : ∃ A c, v = .slice A ps.length c := by
  rcases h.2 with ⟨e, h0⟩ | ⟨g, cap, cur, rfl, -⟩
  · exact ⟨none, 0, by rw [e, h0]⟩
  · exact ⟨_, _, rfl⟩
theorem OwnP.prs (h : OwnP base w v ps) : PrsAt w v ps := by
  rcases h.2 with ⟨e, h0⟩ | ⟨g, cap, cur, rfl, -, hC, h1, hm, hs, ht⟩
  · rw [List.length_eq_zero_iff.1 h0, e]
    exact prsAt_nil w
  · refine ⟨_, cap, rfl, h1, by simpa [maxLen] using hm, fun _ => ⟨g, 0, rfl, fun j u hu => ?_⟩⟩
    rw [Nat.zero_add, cell_of_row _ _ _ _ _ _ hC]
    have h2 : (cur.toList.take (ps.length * 2))[j]? = (pcells ps)[j]? := by rw [ht]
    have hj : j < (pcells ps).length := (List.getElem?_eq_some_iff.1 hu).1
    rw [pcells_length] at hj
    rw [List.getElem?_take, if_pos hj, hu] at h2
    simpa using h2
theorem OwnP.block (h : OwnP base w v ps) : ∀ r, v.ownBlock = some r → base ≤ r ∧ ∃ C, w.heap[r]? = some (.cells C 56 (0, 0)) := fun r hr => by
  rcases h.2 with ⟨rfl, -⟩ | ⟨g, cap, cur, rfl, hb, hg, -⟩
  · cases hr
  · have : g = r := Option.some.inj hr
    subst this
    exact ⟨hb, cur, hg⟩
theorem info56p : ∃ i, Try.prog.info? 56 = some i ∧ i.zero = some (.agg #[.int .i64 0, .int .i64 0]) ∧ i.size = 2 ∧ i.bytes = 16 := by
  have h : (Try.prog.info? 56).map (fun i => (i.zero, i.size, i.bytes)) = some (some (.agg #[.int .i64 0, .int .i64 0]), 2, 16) := by kernel_rfl
  cases hq : Try.prog.info? 56 with
  | none => simp [hq] at h
  | some i => simp [hq] at h; exact ⟨i, rfl, h⟩
theorem append_nil56 (w : World) (base : Nat) (c : Nat) (v : Value) (n : Nat) (xs : List Value) (hown : w.ownsRow base 56 2 v n xs) : (Builtin.append_ #[53, 53] 53 #[v, .slice none 0 c]).run Try.prog w = .ok v w := by
  obtain ⟨i, hi, -, hs, -⟩ := info56p
  have ht : Try.prog.underlying 53 = some (.slice 56) := Try.underlying53
  rcases hown.2 with ⟨rfl, rfl⟩ | ⟨g, cap, cur, rfl, _, _, hnc, _⟩
  · simp [Builtin.append_, run_underlying ht, sizeOf, typeInfo, hi, Builtin.lenOf, Builtin.firstCells]
  · simp [Builtin.append_, run_underlying ht, sizeOf, typeInfo, hi, Builtin.lenOf, Builtin.firstCells, hnc, storeCells]
theorem owns_form2 {e size n : Nat} {xs : List Value} (h : w.ownsRow base e size v n xs) : ∃ A c, v = .slice A n c := by
  rcases h.2 with ⟨rfl, rfl⟩ | ⟨g, cap, cur, rfl, -⟩
  · exact ⟨none, 0, rfl⟩
  · exact ⟨_, _, rfl⟩
/-- append(v, u...) -/
theorem run_append_prs (u : Value) (h : OwnP base w v ps) (hu : PrsAt w u qs) (hx : ps.length ≤ 1000000) (hy : qs.length ≤ 1000000) (hb : base ≤ w.heap.size) :
    ∃ A' c' w', (Builtin.append_ #[53, 53] 53 #[v, u]).run Try.prog w = .ok (.slice A' (ps ++ qs).length c') w' ∧ OwnP base w' (.slice A' (ps ++ qs).length c') (ps ++ qs) ∧ w.grownBy w' v.ownBlock ∧
      ((Value.slice A' (ps ++ qs).length c').ownBlock = v.ownBlock ∨ ∃ r, (Value.slice A' (ps ++ qs).length c').ownBlock = some r ∧ w.heap.size ≤ r) := by
  obtain ⟨i, hi, hz, hs, hby⟩ := info56p
  have hl : (ps ++ qs).length = ps.length + qs.length := List.length_append
  obtain ⟨A, c, rfl, hc1, hc2, hc⟩ := hu
  cases A with
  | none =>
    have h0 : qs = [] := by
      rcases Nat.eq_zero_or_pos qs.length with h0 | h0
      · exact List.length_eq_zero_iff.1 h0
      · obtain ⟨b, off, hx, -⟩ := hc h0
        cases hx
    subst h0
    obtain ⟨A', c', e⟩ := OwnP.form h
    subst e
    rw [List.append_nil]
    exact ⟨A', c', w, append_nil56 w base c _ _ _ h, h, World.grownBy.refl w _, .inl rfl⟩
  | some a =>
    have hcells : ∀ j u, (pcells qs)[j]? = some u → w.cell? (a.add j) = some u := by
      intro j u hju
      have hj : j < (pcells qs).length := (List.getElem?_eq_some_iff.1 hju).1
      rw [pcells_length] at hj
      obtain ⟨b, off, e, hcc⟩ := hc (by omega)
      cases e
      rw [Addr.add_lit, hcc j u hju]
    obtain ⟨v', w', hr, hown, hg, -, hw⟩ := run_append_own_at (P := Try.prog) w base 53 53 56 i (.agg #[.int .i64 0, .int .i64 0]) 2 16 Try.underlying53 hi hz hs hby rfl (by omega) v ps.length (pcells ps) h a qs.length c (pcells qs) (pcells_length qs) hcells pcells_one (by unfold maxLen; omega) (by omega) hb
    obtain ⟨A', c', rfl⟩ := owns_form2 hown
    refine ⟨A', c', w', by rw [hr, hl], by unfold OwnP; rw [hl, pcells_app]; exact hown, hg, by rw [hl]; exact hw.imp id fun hh => ⟨_, hh, Nat.le_refl _⟩⟩
/-- append(v, p) -/
theorem push_pr (h : OwnP base w v ps) (p : Pr) (hx : ps.length ≤ 1000000) (hb : base ≤ w.heap.size) :
    ∃ A' c' w', (Builtin.append_ #[53, 53] 53 #[v, .slice (some ⟨w.heap.size, 0, none⟩) 1 1]).run Try.prog (w.alloc (.cells #[.int .i64 p.1, .int .i64 p.2] 56)) = .ok (.slice A' (ps.length + 1) c') w' ∧ OwnP base w' (.slice A' (ps.length + 1) c') (ps ++ [p]) ∧
      w.grownBy w' v.ownBlock ∧ ((Value.slice A' (ps.length + 1) c').ownBlock = v.ownBlock ∨ ∃ r, (Value.slice A' (ps.length + 1) c').ownBlock = some r ∧ w.heap.size ≤ r) := by
  have hal : Below w.heap.size w (w.alloc (.cells #[.int .i64 p.1, .int .i64 p.2] 56)) := (Below.refl _ _).alloc (Nat.le_refl _) _
  have hnew : PrsAt (w.alloc (.cells #[.int .i64 p.1, .int .i64 p.2] 56)) (.slice (some ⟨w.heap.size, 0, none⟩) 1 1) [p] := ⟨_, 1, rfl, Nat.le_refl _, by omega, fun _ => ⟨_, 0, rfl, fun j u hu => by
    rw [Nat.zero_add, cell_of_row _ _ _ _ _ _ (heap_alloc_new w _)]
    simpa [pcells, pcell] using hu⟩⟩
  obtain ⟨A', c', w', h1, h2, h3, h4⟩ := run_append_prs (w := w.alloc (.cells #[.int .i64 p.1, .int .i64 p.2] 56)) (.slice (some ⟨w.heap.size, 0, none⟩) 1 1) (owns_below h hal) hnew hx (by simp) (by have := hal.size; omega)
  have hl : (ps ++ [p]).length = ps.length + 1 := by simp
  rw [hl] at h1 h2 h4
  have hgrow : w.grownBy w' v.ownBlock := ⟨h3.os, h3.tape, h3.output, Nat.le_trans hal.size h3.size, fun k hk hne => (h3.block k (Nat.lt_of_lt_of_le hk hal.size) hne).trans (hal.block k hk)⟩
  exact ⟨A', c', w', h1, h2, hgrow, h4.imp id fun ⟨r, h5, h6⟩ => ⟨r, h5, Nat.le_trans hal.size h6⟩⟩
end
end Go.Proofs
namespace Go.Proofs
open Go.RowKit Go.Shelf Go.Proofs.Sm
theorem ints_lit {w : World} {B : Nat} {xs : List Int} {C : Array Value} (h : w.heap[B]? = some (.cells C 3 (0, 0))) (hC : C = (ints xs).toArray) (hl : xs.length ≤ 1000) (hf : Fits xs) : IntsAt w (.slice (some ⟨B, 0, none⟩) xs.length xs.length) xs := by
  refine ⟨⟨_, xs.length, xs.length, rfl, by simp [ints], Nat.le_refl _, by unfold maxLen; omega, fun _ => ⟨B, 0, rfl, fun j v hv => ?_⟩⟩, hf⟩
  rw [cell_of_row _ _ _ _ _ _ h, Nat.zero_add, hC, ← hv]
  simp
theorem fits_lit {xs : List Int} (h : ∀ z ∈ xs, -9000000000000000000 ≤ z ∧ z ≤ 9000000000000000000) : Fits xs := fun z hz => by
  have := h z hz
  omega
/-- a list of one row -/
def lit1 (w : World) (n : Nat) (C : Array Value) : World := (w.alloc (.cells C 3)).alloc (.cells #[.slice (some ⟨w.heap.size, 0, none⟩) n n] 25)
theorem lit1_below (w : World) (n : Nat) (C : Array Value) : Below w.heap.size w (lit1 w n C) := ((Below.refl _ _).alloc (Nat.le_refl _) _).alloc (by simp) _
theorem lit1_tab (w : World) {xs : List Int} {C : Array Value} {n : Nat} (hC : C = (ints xs).toArray) (hn : n = xs.length) (hl : xs.length ≤ 1000) (hf : Fits xs) : Tab (lit1 w n C) (.slice (some ⟨w.heap.size + 1, 0, none⟩) 1 1) [xs] := by
  subst hn
  have h0 := heap_alloc_new w (.cells C 3)
  have k1 := (Below.refl (w.alloc (.cells C 3)).heap.size (w.alloc (.cells C 3))).alloc (Nat.le_refl _) (.cells #[.slice (some ⟨w.heap.size, 0, none⟩) xs.length xs.length] 25)
  have h1 := heap_alloc_new (w.alloc (.cells C 3)) (.cells #[.slice (some ⟨w.heap.size, 0, none⟩) xs.length xs.length] 25)
  rw [World.size_alloc] at h1
  have hi : IntsAt (lit1 w xs.length C) (.slice (some ⟨w.heap.size, 0, none⟩) xs.length xs.length) xs := kept_ints.below (ints_lit h0 hC hl hf) k1
  refine ⟨[.slice (some ⟨w.heap.size, 0, none⟩) xs.length xs.length], ⟨_, 1, 1, rfl, rfl, Nat.le_refl _, by unfold maxLen; omega, fun _ => ⟨w.heap.size + 1, 0, rfl, fun j z hz => ?_⟩⟩, rfl, fun i hi' => ?_⟩
  · show ((w.alloc (.cells C 3)).alloc (.cells #[.slice (some ⟨w.heap.size, 0, none⟩) xs.length xs.length] 25)).cell? _ = _
    rw [cell_of_row _ _ _ _ _ _ h1, Nat.zero_add]
    simpa using hz
  · have : i = 0 := by simpa using hi'
    subst this
    exact ⟨_, rfl, hi⟩
theorem smE_nought : SmE 2 [[0, 0]] [] [[1]] [[1, 0], [0, 1]] 0 := .inr ⟨by decide, .inr ⟨_, out_nought, rfl, rfl, rfl, rfl⟩⟩
theorem smE_none : SmE 1 [] [] [] [[1]] 0 := .inr ⟨by decide, .inr ⟨_, out_none, rfl, rfl, rfl, rfl⟩⟩
theorem grE_two : GrE 2 [[2, 4], [6, 8]] [2, 4] 0 0 := ⟨[2, 4], _, _, 0, smE_two, .inr ⟨rfl, rfl, rfl, rfl⟩⟩
theorem grE_five : GrE 3 [[0, 0, 5]] [5] 2 0 := ⟨[5], _, _, 0, .inr ⟨by decide, .inr ⟨_, out_five, rfl, rfl, rfl, rfl⟩⟩, .inr ⟨rfl, rfl, rfl, rfl⟩⟩
theorem grE_one : GrE 2 [[1, 0], [0, -1]] [] 0 0 := ⟨[1, 1], _, _, 0, .inr ⟨by decide, .inr ⟨_, out_one, rfl, rfl, rfl, rfl⟩⟩, .inr ⟨rfl, rfl, rfl, rfl⟩⟩
theorem grE_abel : GrE 2 [[2, 0], [0, 0], [0, 3]] [6] 0 0 := ⟨[1, 6], _, _, 0, .inr ⟨by decide, .inr ⟨_, out_abel, rfl, rfl, rfl, rfl⟩⟩, .inr ⟨rfl, rfl, rfl, rfl⟩⟩
/-- pairs in a block just laid -/
theorem prs_lit {w : World} {B : Nat} {ps : List Pr} {C : Array Value} (h : w.heap[B]? = some (.cells C 56 (0, 0))) (hC : C = (pcells ps).toArray) (hl : ps.length ≤ 1000) : PrsAt w (.slice (some ⟨B, 0, none⟩) ps.length ps.length) ps :=
  ⟨_, _, rfl, Nat.le_refl _, by omega, fun _ => ⟨B, 0, rfl, fun j u hu => by
    rw [cell_of_row _ _ _ _ _ _ h, Nat.zero_add, hC, ← hu]
    simp⟩⟩
section
variable {w W : World} {v : Value} {xs : List Int} {C : Array Value} {n : Nat}
def Yes (W : World) (e : Ending) (w' : World) : Prop := e = .returned (.bool true) ∧ Below W.heap.size W w'
theorem same_lit (hv : IntsAt w v xs) (hW : Below w.heap.size w W) (hC : C = (ints xs).toArray) (hn : n = xs.length) (hl : xs.length ≤ 1000) : Calls Try.prog 17 #[v, .slice (some ⟨W.heap.size, 0, none⟩) n n] (W.alloc (.cells C 3)) (Yes W) := by
  subst hn
  have hb : Below W.heap.size W (W.alloc (.cells C 3)) := (Below.refl _ _).alloc (Nat.le_refl _) _
  have h := same17_any (W.alloc (.cells C 3)) v _ xs xs (kept_ints.below hv (hW.trans (hb.mono hW.size))) (ints_lit (heap_alloc_new W _) hC hl hv.2)
  rw [decide_eq_true rfl] at h
  exact h.mono fun e w' ⟨h1, q, h2⟩ => ⟨h1, by rw [h2]; exact below_drewN hb q⟩
theorem is_lit (free : Int) (hv : IntsAt w v xs) (hW : Below w.heap.size w W) (hC : C = (ints xs).toArray) (hn : n = xs.length) (hl : xs.length ≤ 1000) : Calls Try.prog 30 #[v, .int .i64 free, .int .i64 0, .int .i64 free, .slice (some ⟨W.heap.size, 0, none⟩) n n] (W.alloc (.cells C 3)) (Yes W) := by
  subst hn
  have hb : Below W.heap.size W (W.alloc (.cells C 3)) := (Below.refl _ _).alloc (Nat.le_refl _) _
  have h := is30_true (W.alloc (.cells C 3)) v _ xs free (kept_ints.below hv (hW.trans (hb.mono hW.size))) (ints_lit (heap_alloc_new W _) hC hl hv.2)
  exact h.mono fun e w' ⟨h1, q, h2⟩ => ⟨h1, by rw [h2]; exact below_drewN hb q⟩
theorem is_nil (free : Int) (hv : IntsAt w v []) (hW : Below w.heap.size w W) : Calls Try.prog 30 #[v, .int .i64 free, .int .i64 0, .int .i64 free, .slice none 0 0] W (Yes W) :=
  (is30_true W v _ [] free (kept_ints.below hv hW) intsAt_nil).mono fun e w' ⟨h1, q, h2⟩ => ⟨h1, by rw [h2]; exact below_drewN (Below.refl _ _) q⟩
theorem lists_lit1 (hv : Tab w v [xs]) (hW : Below w.heap.size w W) (hC : C = (ints xs).toArray) (hn : n = xs.length) (hl : xs.length ≤ 1000) (hf : Fits xs) : Calls Try.prog 18 #[v, .slice (some ⟨W.heap.size + 1, 0, none⟩) 1 1] (lit1 W n C) (Yes W) := by
  have hb := lit1_below W n C
  have h := sameLists18_any (lit1 W n C) v _ [xs] [xs] (kept_tab.below hv (hW.trans (hb.mono hW.size))) (lit1_tab W hC hn hl hf)
  rw [decide_eq_true rfl] at h
  exact h.mono fun e w' ⟨h1, q, h2⟩ => ⟨h1, by rw [h2]; exact below_drewN hb q⟩
theorem lists_lit22 {a b c d : Int} (hv : Tab w v [[a, b], [c, d]]) (hW : Below w.heap.size w W) (h1 : In64 a) (h2 : In64 b) (h3 : In64 c) (h4 : In64 d) : Calls Try.prog 18 #[v, .slice (some ⟨W.heap.size + 1 + 1, 0, none⟩) 2 2] (lit22 W a b c d) (Yes W) := by
  have hb := lit22_below W a b c d
  have h := sameLists18_any (lit22 W a b c d) v _ [[a, b], [c, d]] [[a, b], [c, d]] (kept_tab.below hv (hW.trans (hb.mono hW.size))) (lit22_tab W h1 h2 h3 h4)
  rw [decide_eq_true rfl] at h
  exact h.mono fun e w' ⟨h1, q, h2⟩ => ⟨h1, by rw [h2]; exact below_drewN hb q⟩
end
end Go.Proofs
namespace Go.Proofs.Sm
/-- the least divisor from d on, or n -/
def divF (n : Nat) : Nat → Nat → Nat
  | _, 0 => n
  | d, f + 1 => if d * d ≤ n then (if n % d = 0 then d else divF n (d + 1) f) else n
def divN (n : Nat) : Nat := divF n 2 n
theorem divF_stop {n d f : Nat} (h : ¬ d * d ≤ n) : divF n d f = n := by
  cases f with
  | zero => rfl
  | succ f => unfold divF; rw [if_neg h]
theorem divF_fuel {n d f : Nat} (hd : 1 ≤ d) (hf : n < d + f) (h : d * d ≤ n) : ∃ f', f = f' + 1 ∧ n < (d + 1) + f' := by
  cases f with
  | zero => exact absurd (Nat.le_trans (Nat.le_mul_of_pos_left d hd) h) (by omega)
  | succ f => exact ⟨f, rfl, by omega⟩
theorem divF_spec {n : Nat} : ∀ {f d : Nat}, 1 ≤ d → n < d + f → (divF n d f * divF n d f ≤ n ∧ d ≤ divF n d f ∧ n % divF n d f = 0 ∧ ∀ e, d ≤ e → e < divF n d f → n % e ≠ 0) ∨ (divF n d f = n ∧ ∀ e, d ≤ e → e * e ≤ n → n % e ≠ 0)
  | 0, d, hd, h => .inr ⟨rfl, fun e h1 h2 => absurd (Nat.le_trans (Nat.le_mul_of_pos_left e (by omega)) h2) (by omega)⟩
  | f + 1, d, hd, h => by
    unfold divF
    by_cases h1 : d * d ≤ n
    · rw [if_pos h1]
      by_cases h2 : n % d = 0
      · rw [if_pos h2]
        exact .inl ⟨h1, Nat.le_refl _, h2, fun e h3 h4 => absurd h3 (by omega)⟩
      · rw [if_neg h2]
        rcases divF_spec (n := n) (f := f) (d := d + 1) (by omega) (by omega) with ⟨a, b, c, e⟩ | ⟨a, b⟩
        · refine .inl ⟨a, by omega, c, fun x h3 h4 => ?_⟩
          rcases Nat.eq_or_lt_of_le h3 with rfl | h5
          · exact h2
          · exact e x h5 h4
        · refine .inr ⟨a, fun x h3 h4 => ?_⟩
          rcases Nat.eq_or_lt_of_le h3 with rfl | h5
          · exact h2
          · exact b x h5 h4
    · rw [if_neg h1]
      exact .inr ⟨rfl, fun e h3 h4 => absurd (Nat.le_trans (Nat.mul_le_mul h3 h3) h4) h1⟩
/-- a prime: no divisor but 1 and itself -/
def Prm (p : Nat) : Prop := 2 ≤ p ∧ ∀ e, 2 ≤ e → e < p → p % e ≠ 0
theorem divN_spec {n : Nat} (h : 2 ≤ n) : Prm (divN n) ∧ n % divN n = 0 := by
  have key : ∀ p, 2 ≤ p → n % p = 0 → (∀ e, 2 ≤ e → e < p → n % e ≠ 0) → Prm p := fun p h1 h2 h3 => ⟨h1, fun e h4 h5 h6 => h3 e h4 h5 (Nat.mod_eq_zero_of_dvd (Nat.dvd_trans (Nat.dvd_of_mod_eq_zero h6) (Nat.dvd_of_mod_eq_zero h2)))⟩
  rcases divF_spec (n := n) (f := n) (d := 2) (by omega) (by omega) with ⟨a, b, c, e⟩ | ⟨a, b⟩
  · exact ⟨key _ b c e, c⟩
  · have hn : divN n = n := a
    rw [hn]
    refine ⟨⟨h, fun e h1 h2 h3 => ?_⟩, Nat.mod_self n⟩
    obtain ⟨q, hq⟩ := Nat.dvd_of_mod_eq_zero h3
    rcases Nat.lt_or_ge n (e * e) with h4 | h4
    · have hqe : q < e := by
        rcases Nat.lt_or_ge q e with h5 | h5
        · exact h5
        · have := Nat.mul_le_mul_left e h5
          omega
      have hq2 : 2 ≤ q := by
        rcases q with _ | _ | q
        · omega
        · omega
        · omega
      refine b q hq2 ?_ (Nat.mod_eq_zero_of_dvd ⟨e, by rw [hq, Nat.mul_comm]⟩)
      have h6 := Nat.mul_le_mul_right q (Nat.le_of_lt hqe)
      omega
    · exact b e h1 h4 h3
theorem divN_prm {n : Nat} (h : Prm n) : divN n = n := by
  obtain ⟨h1, h2⟩ := divN_spec h.1
  rcases Nat.lt_or_ge (divN n) n with h3 | h3
  · exact absurd h2 (h.2 _ h1.1 h3)
  · have := Nat.le_of_dvd (by have := h.1; omega) (Nat.dvd_of_mod_eq_zero h2)
    omega
theorem prm_of_divN {n : Nat} (h : 2 ≤ n) (he : divN n = n) : Prm n := he ▸ (divN_spec h).1
theorem divN_le {n : Nat} (h : 2 ≤ n) : divN n ≤ n := Nat.le_of_dvd (by omega) (Nat.dvd_of_mod_eq_zero (divN_spec h).2)
/-- is x a prime below 1000000 -/
def isE (x : Int) : Bool := decide (1 < x) && decide (x < 1000000) && (divN x.toNat == x.toNat)
theorem isE_iff {x : Int} : isE x = true ↔ 1 < x ∧ x < 1000000 ∧ Prm x.toNat := by
  unfold isE
  constructor
  · intro h
    simp only [Bool.and_eq_true, decide_eq_true_eq, beq_iff_eq] at h
    exact ⟨h.1.1, h.1.2, prm_of_divN (by omega) h.2⟩
  · rintro ⟨h1, h2, h3⟩
    simp only [Bool.and_eq_true, decide_eq_true_eq, beq_iff_eq]
    exact ⟨⟨h1, h2⟩, divN_prm h3⟩
/-- n without the factors p, and how many they are (k more) -/
def stripF (p : Nat) : Nat → Nat → Nat → Nat × Nat
  | n, k, 0 => (n, k)
  | n, k, f + 1 => if n % p = 0 then stripF p (n / p) (k + 1) f else (n, k)
theorem strip_lt {n p : Nat} (hn : 1 ≤ n) (hp : 2 ≤ p) : n / p < n := Nat.div_lt_self (by omega) (by omega)
theorem strip_pos {n p : Nat} (hn : 1 ≤ n) (hp : 2 ≤ p) (h : n % p = 0) : 1 ≤ n / p := Nat.div_pos (Nat.le_of_dvd hn (Nat.dvd_of_mod_eq_zero h)) (by omega)
theorem stripF_spec {p : Nat} (hp : 2 ≤ p) : ∀ {f n k : Nat}, 1 ≤ n → n ≤ f → ∃ j, (stripF p n k f).2 = k + j ∧ n = (stripF p n k f).1 * p ^ j ∧ (stripF p n k f).1 % p ≠ 0 ∧ 1 ≤ (stripF p n k f).1
  | 0, n, k, h1, h2 => by omega
  | f + 1, n, k, h1, h2 => by
    unfold stripF
    by_cases h : n % p = 0
    · rw [if_pos h]
      have h3 := strip_lt h1 hp
      obtain ⟨j, a, b, c, d⟩ := stripF_spec hp (f := f) (n := n / p) (k := k + 1) (strip_pos h1 hp h) (by omega)
      refine ⟨j + 1, by rw [a]; omega, ?_, c, d⟩
      have h4 : n = (n / p) * p := (Nat.div_mul_cancel (Nat.dvd_of_mod_eq_zero h)).symm
      rw [Nat.pow_succ, ← Nat.mul_assoc, ← b]
      exact h4
    · rw [if_neg h]
      exact ⟨0, rfl, by simp, h, h1⟩
/-- the prime powers of n -/
def factF : Nat → Nat → List (Int × Int)
  | _, 0 => []
  | n, f + 1 => if 1 < n then (((divN n : Nat) : Int), (((stripF (divN n) n 0 n).2 : Nat) : Int)) :: factF (stripF (divN n) n 0 n).1 f else []
def factN (n : Nat) : List (Int × Int) := factF n n
theorem strip_lt2 {n : Nat} (h : 1 < n) : (stripF (divN n) n 0 n).1 < n ∧ 1 ≤ (stripF (divN n) n 0 n).1 ∧ 1 ≤ (stripF (divN n) n 0 n).2 := by
  obtain ⟨hp, hd⟩ := divN_spec (n := n) (by omega)
  obtain ⟨j, a, b, c, d⟩ := stripF_spec hp.1 (f := n) (n := n) (k := 0) (by omega) (Nat.le_refl _)
  have hj : 1 ≤ j := by
    rcases j with _ | j
    · rw [Nat.pow_zero, Nat.mul_one] at b
      rw [← b] at c
      exact absurd hd c
    · omega
  refine ⟨?_, d, by omega⟩
  have h2 : 2 ≤ divN n ^ j := Nat.le_trans hp.1 (by
    have := Nat.pow_le_pow_right (show 0 < divN n by have := hp.1; omega) hj
    rwa [Nat.pow_one] at this)
  have h3 := Nat.mul_le_mul_left (stripF (divN n) n 0 n).1 h2
  generalize (stripF (divN n) n 0 n).1 = y at *
  rw [← b] at h3
  omega
end Go.Proofs.Sm
namespace Go.Proofs
open Go.RowKit Go.Shelf Go.Proofs.Sm
theorem sq_lt {d n : Nat} (h : d * d ≤ n) (hn : n ≤ 1000000000) : d ≤ 31623 := by
  rcases Nat.lt_or_ge 31623 d with h1 | h1
  · have := Nat.mul_le_mul h1 h1
    omega
  · exact h1
theorem tmod_nat (n d : Nat) : Int.tmod (n : Int) (d : Int) = ((n % d : Nat) : Int) := rfl
theorem tdiv_nat (n d : Nat) : Int.tdiv (n : Int) (d : Int) = ((n / d : Nat) : Int) := rfl
set_option maxRecDepth 100000 in
theorem divides69_any (w : World) (n : Nat) (hn : n ≤ 1000000000) : Calls Try.prog 69 #[.int .i64 (n : Int)] w fun e w' => e = .returned (.int .i64 (divN n : Int)) ∧ ∃ q, w' = w.drewN q := by
  have hn0 : (0 : Int) ≤ (n : Int) := Int.natCast_nonneg _
  have hnb : (n : Int) ≤ 1000000000 := by omega
  obtain ⟨R, hR⟩ : ∃ R, R = divN n := ⟨_, rfl⟩
  rw [← hR]
  have HR := Lib.hid hR
  clear hR
  go_enter Try.func69, Try.ntmps69
  go_wp2_with fail
  go_loopw [3] (fun z wr => ∃ d f : Nat, z = .int .i64 d ∧ 2 ≤ d ∧ d ≤ 40000 ∧ Hid (n < d + f ∧ divF n d f = R) ∧ ∃ q, wr = w.drewN q) (fun z _ => 40001 - (intOf z).toNat)
  case atStart => exact ⟨2, n, rfl, by omega, by omega, Lib.hid ⟨by omega, HR.out.symm⟩, 0, rfl⟩
  case round =>
    obtain ⟨d, f, rfl, hd, hd2, HI, q, rfl⟩ := hrel
    have hd0 : (2 : Int) ≤ (d : Int) := by omega
    have hdb : (d : Int) ≤ 40000 := by omega
    have hm1 : d * d ≤ 1600000000 := Nat.le_trans (Nat.mul_le_mul hd2 hd2) (by omega)
    have hcast : (d : Int) * (d : Int) = ((d * d : Nat) : Int) := by rw [Int.natCast_mul]
    by_cases hc : d * d ≤ n
    · have hd3 := sq_lt hc hn
      obtain ⟨f', hf, hf2⟩ := divF_fuel (by omega) HI.out.1 hc
      have hstep := HI.out.2
      rw [hf] at hstep
      unfold divF at hstep
      rw [if_pos hc] at hstep
      have HS := Lib.hid hstep
      have HF := Lib.hid hf2
      clear hstep hf hf2 HI
      have hci : ((d * d : Nat) : Int) ≤ (n : Int) := by omega
      have hwz : IntKind.i64.wrap ((d : Int) * (d : Int)) = ((d * d : Nat) : Int) := by rw [hcast]; exact IntWalk.i64_in _ (by omega)
      have hdne : ((d : Int) == 0) = false := by simp; omega
      have hdne2 : ((d : Int) != 0) = true := by simp; omega
      have ht := tmod_nat n d
      have hmd : n % d < d := Nat.mod_lt _ (by omega)
      have hwt : IntKind.i64.wrap ((n % d : Nat) : Int) = ((n % d : Nat) : Int) := IntWalk.i64_in _ (by omega)
      clear hcast
      generalize d * d = m at *
      by_cases h0 : n % d = 0
      · have HE : Hid (d = R) := Lib.hid (by have := HS.out; rw [if_pos h0] at this; exact this)
        rw [h0] at ht hwt
        have ht0 : ((0 : Nat) : Int) = 0 := rfl
        rw [ht0] at ht hwt
        go_wp2_with fail
        go_ret
        exact ⟨ret_int (by rw [HE.out]), (by first | exact ⟨_, rfl⟩ | exact ex_drewN)⟩
      · have HE : Hid (divF n (d + 1) f' = R) := Lib.hid (by have := HS.out; rw [if_neg h0] at this; exact this)
        have hne : (((n % d : Nat) : Int) == 0) = false := by simp; omega
        generalize n % d = x at *
        go_wp2_with fail
        go_roundw
        case rel => exact ⟨d + 1, f', by go_num, by omega, by omega, Lib.hid ⟨HF.out, HE.out⟩, (by first | exact ⟨_, rfl⟩ | exact ex_drewN)⟩
        case measure => simp [intOf]; omega
    · have HE : Hid (n = R) := Lib.hid (by rw [← HI.out.2, divF_stop hc])
      have hci : ¬ ((d * d : Nat) : Int) ≤ (n : Int) := by omega
      have hwz : IntKind.i64.wrap ((d : Int) * (d : Int)) = ((d * d : Nat) : Int) := by rw [hcast]; exact IntWalk.i64_in _ (by omega)
      clear hcast
      generalize d * d = m at *
      go_wp2_with fail
      go_ret
      exact ⟨ret_int (by rw [HE.out]), _, rfl⟩
theorem is50_any (w : World) (x : Int) (hx : In64 x) : Calls Try.prog 50 #[.int .i64 x] w fun e w' => e = .returned (.bool (isE x)) ∧ ∃ q, w' = w.drewN q := by
  by_cases h1 : 1 < x
  · by_cases h2 : x < 1000000
    · obtain ⟨n, rfl⟩ : ∃ n : Nat, x = (n : Int) := ⟨x.toNat, by omega⟩
      have HD := Lib.hid (divides69_any w n (by omega))
      have HE : Hid (isE (n : Int) = ((divN n : Int) == (n : Int))) := Lib.hid (by
        unfold isE
        rw [decide_eq_true h1, decide_eq_true h2, Int.toNat_natCast]
        by_cases h : divN n = n
        · simp [h]
        · have : ((divN n : Int) == (n : Int)) = false := by simp; omega
          simp [h, this])
      clear hx
      generalize hR : divN n = R at *
      go_enter Try.func50, Try.ntmps50
      go_wp2_with (go_at_call 69; (refine HD.out.mono ?_); rintro e w' ⟨rfl, q, rfl⟩)
      go_ret
      exact ⟨ret_bool HE.out.symm, _, rfl⟩
    · have HE : Hid (isE x = false) := Lib.hid (by unfold isE; rw [decide_eq_false h2]; simp)
      clear hx
      go_enter Try.func50, Try.ntmps50
      go_wp2_with fail
      go_ret
      exact ⟨ret_bool HE.out.symm, 0, rfl⟩
  · have HE : Hid (isE x = false) := Lib.hid (by unfold isE; rw [decide_eq_false h1]; simp)
    clear hx
    go_enter Try.func50, Try.ntmps50
    go_wp2_with fail
    go_ret
    exact ⟨ret_bool HE.out.symm, 0, rfl⟩
end Go.Proofs
namespace Go.Proofs
open Go.RowKit Go.Shelf Go.Proofs.Sm
def powE (p n : Nat) : Nat := if p ^ n ≤ 1000000000 then p ^ n else 0
set_option maxRecDepth 100000 in
theorem power53_any (w : World) (p n : Nat) (hp1 : 1 ≤ p) (hp2 : p ≤ 1000000) (hn : n ≤ 9223372036854775807) : Calls Try.prog 53 #[.int .i64 (p : Int), .int .i64 (n : Int)] w fun e w' => e = .returned (.int .i64 (powE p n : Int)) ∧ ∃ q, w' = w.drewN q := by
  obtain ⟨R, hR⟩ : ∃ R, R = powE p n := ⟨_, rfl⟩
  rw [← hR]
  have HR := Lib.hid hR
  clear hR
  go_enter Try.func53, Try.ntmps53
  go_wp2_with fail
  go_loopw [1, 5] (fun zn zo wr => ∃ j m o : Nat, m + j = n ∧ zn = .int .i64 m ∧ zo = .int .i64 o ∧ Hid (o = p ^ j) ∧ o ≤ 1000000000000000 ∧ ∃ q, wr = w.drewN q) (fun zn _ _ => (intOf zn).toNat)
  case atStart => exact ⟨0, n, 1, by omega, rfl, rfl, Lib.hid rfl, by omega, 0, rfl⟩
  case round =>
    obtain ⟨j, m, o, hm, rfl, rfl, HO, hob, q, rfl⟩ := hrel
    have ho0 : (0 : Int) ≤ (o : Int) := Int.natCast_nonneg _
    have hobi : (o : Int) ≤ 1000000000000000 := by omega
    have hmi : (m : Int) ≤ 9223372036854775807 := by omega
    by_cases hm0 : 0 < m
    · have hmp : (0 : Int) < (m : Int) := by omega
      by_cases ho : o ≤ 1000000000
      · have hoi : (o : Int) ≤ 1000000000 := by omega
        have hmul : o * p ≤ 1000000000 * 1000000 := Nat.mul_le_mul ho hp2
        have hcast : (o : Int) * (p : Int) = ((o * p : Nat) : Int) := by rw [Int.natCast_mul]
        have hwz : IntKind.i64.wrap ((o : Int) * (p : Int)) = ((o * p : Nat) : Int) := by rw [hcast]; exact IntWalk.i64_in _ (by omega)
        have HN : Hid (o * p = p ^ (j + 1)) := Lib.hid (by rw [HO.out, Nat.pow_succ])
        clear hcast
        generalize o * p = o2 at *
        go_wp2_with fail
        go_roundw
        case rel => exact ⟨j + 1, m - 1, o2, by omega, by go_num, rfl, HN, by omega, _, rfl⟩
        case measure => simp [intOf]; omega
      · have hoi : ¬ (o : Int) ≤ 1000000000 := by omega
        have HE : Hid ((0 : Int) = (R : Int)) := Lib.hid (by
          have h1 : p ^ j ≤ p ^ n := Nat.pow_le_pow_right hp1 (by omega)
          have h2 := HO.out
          rw [HR.out]
          unfold powE
          rw [if_neg (by omega)]
          rfl)
        go_wp2_with fail
        go_ret
        exact ⟨ret_int HE.out, _, rfl⟩
    · obtain rfl : m = 0 := by omega
      obtain rfl : j = n := by omega
      clear hm0
      by_cases ho : o ≤ 1000000000
      · have hoi : ¬ (1000000000 : Int) < (o : Int) := by omega
        have HE : Hid ((o : Int) = (R : Int)) := Lib.hid (by
          rw [HR.out]
          unfold powE
          rw [if_pos (by rw [← HO.out]; exact ho), ← HO.out])
        go_wp2_with fail
        go_ret
        exact ⟨ret_int HE.out, _, rfl⟩
      · have hoi : (1000000000 : Int) < (o : Int) := by omega
        have HE : Hid ((0 : Int) = (R : Int)) := Lib.hid (by
          rw [HR.out]
          unfold powE
          rw [if_neg (by rw [← HO.out]; exact ho)]
          rfl)
        go_wp2_with fail
        go_ret
        exact ⟨ret_int HE.out, _, rfl⟩
/-- no prime power -/
def badJ (p : Pr) : Bool := !(isE p.1) || decide (p.2 < 1)
set_option maxRecDepth 100000 in
theorem join49_any (w : World) (p : Pr) (h1 : In64 p.1) (h2 : In64 p.2) : Calls Try.prog 49 #[.agg #[.int .i64 p.1, .int .i64 p.2]] w fun e w' => e = .returned (.bool (badJ p)) ∧ RowKit.Below w.heap.size w w' := by
  obtain ⟨x, k⟩ := p
  have HI := Lib.hid fun W => is50_any W x h1
  have HB : Hid (badJ (x, k) = (!(isE x) || decide (k < 1))) := Lib.hid rfl
  clear h1 h2
  generalize badJ (x, k) = R at *
  generalize isE x = b at *
  simp only
  cases b with
  | false =>
    have HE : Hid (R = true) := Lib.hid (by rw [HB.out]; simp)
    go_enter Try.func49, Try.ntmps49
    go_wp2_with (go_at_call 50; (refine (HI.out _).mono ?_); rintro e w' ⟨rfl, q, rfl⟩)
    go_ret
    exact ⟨ret_bool HE.out.symm, by first | exact below_drewN ((RowKit.Below.refl _ _).alloc (Nat.le_refl _) _) _ | exact (RowKit.Below.refl _ _).alloc (Nat.le_refl _) _⟩
  | true =>
    have HE : Hid (R = decide (k < 1)) := Lib.hid (by rw [HB.out]; simp)
    go_enter Try.func49, Try.ntmps49
    go_wp2_with (go_at_call 50; (refine (HI.out _).mono ?_); rintro e w' ⟨rfl, q, rfl⟩)
    go_ret
    exact ⟨ret_bool HE.out.symm, by first | exact below_drewN ((RowKit.Below.refl _ _).alloc (Nat.le_refl _) _) _ | exact (RowKit.Below.refl _ _).alloc (Nat.le_refl _) _⟩
end Go.Proofs
