/- smith.Smith and smith.Group, by what they return; The law's helpers: Same, SameLists, row, is, lives; Diagonal forms, plainly: the chapter's examples; is and lives: examples of the chapter; Matrices that grow by rows; Pick, Take, drawn; drawn: the matrix that numbers select; shape and mul; det; word.size, cmp.Compare at numbers, word.Check at a word that passes; word.Sums at a word that passes; smith.Abelian at relators that pass. -/
import Derived.Test.YthfachbkcmifbaaGreatGrCS7
import Derived.Test.YthfachbkcmifbaaGreatGrCS2
import Derived.Maps.AppendAt
namespace Go.Proofs
open Go.RowKit Go.Shelf Go.Proofs.Sm
theorem smith11_own (w : World) (n : Int) (v : Value) (l : List (List Int)) (h : Tab w v l) {d : List Int} {u vv : Mat} {er : Int} (hE : SmE n l d u vv er) : Calls Tryz.prog 13 #[.int .i64 n, v] w (SmithPostD d u vv er w) := by
  rcases hE with ⟨h1, rfl, rfl, rfl, rfl⟩ | ⟨h1, h2⟩
  · exact smith_no w n v l h h1
  · obtain ⟨hn1, -, -, -⟩ := valid_of_check h1
    obtain ⟨k, rfl⟩ : ∃ k : Nat, n = (k : Int) := ⟨n.toNat, by omega⟩
    rw [Int.toNat_natCast] at h2
    rcases h2 with ⟨ho, rfl, rfl, rfl, rfl⟩ | ⟨s, ho, rfl, rfl, rfl, rfl⟩
    · exact smith_over w k v l h h1 none ho
    · exact smith_over w k v l h h1 (some s) ho
theorem smith11_any (w : World) (n : Int) (v : Value) (l : List (List Int)) (h : Tab w v l) {d : List Int} {u vv : Mat} {er : Int} (hE : SmE n l d u vv er) : Calls Tryz.prog 13 #[.int .i64 n, v] w (SmithPost d u vv er w) :=
  (smith11_own w n v l h hE).mono fun _ _ ⟨⟨vd, vu, vv, h1, h2, h3, h4, _⟩, hb⟩ => ⟨⟨vd, vu, vv, h1, h2, h3, h4⟩, hb⟩
theorem eg40 : ∀ args w, (callFunc 40 args).run Tryz.prog w = .ok (.enter 40 args) w := enters_of Tryz.func40 (by kernel_rfl) rfl
theorem pred40 (W : World) : PredW 40 #[] (fun _ => True) (fun x => x == 1) W := fun x q _ => by
  show Calls Tryz.prog 40 #[.int .i64 x] (W.drewN q) _
  go_enter Tryz.func40, Tryz.ntmps40
  go_wp2_with fail
  go_ret
  exact ⟨rfl, q, rfl⟩
theorem delete39_own (base : Nat) (w : World) (v : Value) (xs : List Int) (h : OwnI base w v xs) (_hbw : base ≤ w.heap.size) (hf : Fits xs) :
    Calls Tryz.prog 39 #[v, .func (.func 40) #[] #[]] w (DelPost (xs.filter fun x => !(x == 1)) base w) := by
  obtain ⟨A, c, rfl⟩ := owns_form h
  rcases Nat.eq_zero_or_pos xs.length with h0 | h0
  · obtain rfl : xs = [] := List.length_eq_zero_iff.1 h0
    have hI : IntsAt w (.slice A 0 c) [] := OwnI.ints h hf
    have HIDX := Lib.hid (idx60_at 40 #[] (fun _ => True) (fun x => x == 1) w eg40 (pred40 w) (.slice A 0 c) [] hI (fun _ _ => trivial))
    have HI := Lib.hid hI
    clear h hI h0
    show Calls Tryz.prog 39 #[.slice A 0 c, .func (.func 40) #[] #[]] w _
    go_enter Tryz.func39, Tryz.ntmps39
    go_wp2_with fail
    refine HIDX.out.mono ?_
    rintro e w1 ⟨hidx, q, rfl⟩
    rcases hidx with ⟨rfl, -⟩ | ⟨k, -, hk, -⟩
    · go_wp2_with fail
      go_ret
      exact ⟨⟨_, rfl, HI.out.drewN _⟩, below_drewN (Below.refl _ _) _⟩
    · exact absurd hk (Nat.not_lt_zero _)
  · obtain ⟨g, rfl, hx, hg, hc1, hc2⟩ := owns_xs h h0
    exact delete39_any base 40 (fun _ => True) (fun x => x == 1) w eg40 pred40 g c xs hx hg hc1 hc2 hf (fun _ _ => trivial)
/-- what Group returns -/
def GrE (n : Int) (l : Mat) (t : List Int) (free er : Int) : Prop := ∃ d u v e, SmE n l d u v e ∧ ((e ≠ 0 ∧ t = [] ∧ free = 0 ∧ er = e) ∨ (e = 0 ∧ t = (d.filter fun x => !(x == 1)) ∧ free = n - d.length ∧ er = 0))
theorem grE_ex (n : Int) (l : Mat) : ∃ t f e, GrE n l t f e := by
  obtain ⟨d, u, v, e, h⟩ := smE_ex n l
  by_cases h0 : e = 0
  · exact ⟨_, _, _, d, u, v, e, h, .inr ⟨h0, rfl, rfl, rfl⟩⟩
  · exact ⟨_, _, _, d, u, v, e, h, .inl ⟨h0, rfl, rfl, rfl⟩⟩
theorem smE_bd {n : Int} {l : Mat} {d : List Int} {u v : Mat} (h : SmE n l d u v 0) : 1 ≤ n ∧ n ≤ 16 ∧ d.length ≤ 16 := by
  rcases h with ⟨h1, -, -, -, h2⟩ | ⟨h1, h2⟩
  · exact absurd h2.symm h1
  · obtain ⟨a, b, c, hv⟩ := valid_of_check h1
    rcases h2 with ⟨-, -, -, -, h3⟩ | ⟨s, ho, rfl, -, -, -⟩
    · omega
    · have := (out_end hv ho).tn
      rw [length_diagOf]
      exact ⟨a, b, by omega⟩
def GroupPost (t : List Int) (free er : Int) (w : World) (e : Ending) (w' : World) : Prop := (∃ v, e = .returned (.tuple #[v, .int .i64 free, .int .i64 er]) ∧ IntsAt w' v t) ∧ Below w.heap.size w w'
set_option maxRecDepth 100000 in
set_option maxHeartbeats 1000000 in
theorem group13_any (w : World) (n : Int) (v : Value) (l : List (List Int)) (h : Tab w v l) {t : List Int} {free er : Int} (hE : GrE n l t free er) : Calls Tryz.prog 14 #[.int .i64 n, v] w (GroupPost t free er w) := by
  obtain ⟨d, u, vv, e, hS, hcase⟩ := hE
  have HS := Lib.hid (smith11_any w n v l h hS)
  obtain ⟨A0, c0, rfl, -, -, -⟩ := h.open_
  clear h
  rcases hcase with ⟨h0, rfl, rfl, rfl⟩ | ⟨rfl, rfl, rfl, rfl⟩
  · have hd : (er != 0) = true := by simpa using h0
    clear hS h0
    go_enter Tryz.func14, Tryz.ntmps14
    go_wp2_with (go_at_call 13; (refine HS.out.mono ?_); rintro e w1 ⟨⟨vd, vu, vv, rfl, hd, hu, hv⟩, hb⟩; obtain ⟨Ad, cd, rfl, -, -, -⟩ := hd.open_; obtain ⟨Au, cu, rfl, -, -, -⟩ := LAt.open_ hu; obtain ⟨Av, cv, rfl, -, -, -⟩ := LAt.open_ hv; have HB := Lib.hid hb; clear hd hu hv hb)
    go_ret3
    exact ⟨⟨_, rfl, intsAt_nil⟩, HB.out⟩
  · obtain ⟨b1, b2, b3⟩ := smE_bd hS
    clear hS
    have hdl : (d.length : Int) ≤ 16 := by omega
    go_enter Tryz.func14, Tryz.ntmps14
    go_wp2_with fail
    refine HS.out.mono ?_
    rintro e w1 ⟨⟨vd, vu, vv', rfl, hd, hu, hv⟩, hb⟩
    obtain ⟨Ad, cd, rfl, -, -, -⟩ := id hd.open_
    obtain ⟨Au, cu, rfl, -, -, -⟩ := LAt.open_ hu
    obtain ⟨Av, cv, rfl, -, -, -⟩ := LAt.open_ hv
    have HCL := Lib.hid (clone34_any w1 (.slice Ad d.length cd) d hd (by omega))
    have HDF := Lib.hid hd.2
    have HB := Lib.hid hb
    clear hd hu hv hb
    go_wp2_with (first
      | (go_at_call 37; (refine HCL.out.mono ?_); rintro e w2 ⟨A2, c2, rfl, ho2, hb2⟩; have HDEL := Lib.hid (delete39_own w1.heap.size w2 _ d ho2 hb2.size HDF.out); have HB2 := Lib.hid (HB.out.trans (hb2.mono HB.out.size)); clear ho2 hb2)
      | (go_at_call 39; (refine HDEL.out.mono ?_); rintro e w3 ⟨⟨vt, rfl, ht⟩, hb3⟩; obtain ⟨At, ct, rfl, -, -, -⟩ := id ht.open_; have HT := Lib.hid ht; have HB3 := Lib.hid (HB2.out.trans (hb3.mono HB.out.size)); clear ht hb3))
    go_ret3
    exact ⟨⟨_, rfl, HT.out⟩, HB3.out⟩
end Go.Proofs
namespace Go.Proofs
open Go.RowKit Go.Shelf Go.Proofs.Sm
set_option maxRecDepth 100000 in
set_option maxHeartbeats 400000 in
theorem same17_any (w : World) (va vb : Value) (x y : List Int) (ha : IntsAt w va x) (hb : IntsAt w vb y) :
    Calls Tryz.prog 11 #[va, vb] w fun e w' => e = .returned (.bool (decide (x = y))) ∧ ∃ q, w' = w.drewN q := by
  obtain ⟨A3, c3, rfl, hd1, hd2, hd⟩ := ha.open_
  obtain ⟨A4, c4, rfl, he1, he2, he⟩ := hb.open_
  have HD := Lib.hid hd
  have HE := Lib.hid he
  clear ha hb hd he
  have HN := Lib.hid (fun (h : x.length ≠ y.length) (e : x = y) => h (by rw [e]))
  by_cases hxy : x.length = y.length
  · have d3 : ((x.length : Int) != (y.length : Int)) = false := by simp; omega
    have d4 : (x.length != y.length) = false := by simp; omega
    have HX := Lib.hid hxy
    clear hxy
    go_enter Tryz.func11, Tryz.ntmps11
    go_wp2_with fail
    go_loopw [5] (fun i wr => ∃ j : Nat, j ≤ x.length ∧ i = .int .i64 j ∧ (∀ t, t < j → x.getD t 0 = y.getD t 0) ∧ ∃ q, wr = w.drewN q) (fun i _ => x.length - (intOf i).toNat)
    case atStart => exact ⟨0, Nat.zero_le _, rfl, fun j hj => absurd hj (by omega), 0, rfl⟩
    case round =>
      obtain ⟨j, hj, rfl, hzj, qj, rfl⟩ := hrel
      have HZJ := Lib.hid hzj
      clear hzj
      by_cases hjl : j < x.length
      · obtain ⟨b3, o3, rfl, hx⟩ := HD.out (by omega)
        obtain ⟨b4, o4, rfl, hy⟩ := HE.out (by rw [← HX.out]; omega)
        have hx1 := hx j hjl
        have hy1 := hy j (by rw [← HX.out]; omega)
        have hj0 : (0 : Int) ≤ (j : Int) := Int.natCast_nonneg _
        have hjb : (j : Int) < (y.length : Int) := by rw [← HX.out]; omega
        have hja : (j : Int) < (x.length : Int) := by omega
        have HM := Lib.hid (fun h => getD_ne (A := x) (B := y) (d := 0) (k := j) h)
        clear hx hy
        generalize hse : x.getD j 0 = s at *
        generalize hte : y.getD j 0 = t at *
        have HSE := Lib.hid hse
        have HTE := Lib.hid hte
        clear hse hte
        by_cases hst : s = t
        · have d5 : (s != t) = false := by simpa using hst
          have HS := Lib.hid hst
          clear hst
          go_wp2_with fail
          go_quiet (fail)
          go_wp2_with fail
          go_roundw
          case rel => exact ⟨j + 1, by omega, by go_num, all_succ HZJ.out (by rw [HSE.out, HTE.out]; exact HS.out), (by first | exact ⟨_, rfl⟩ | exact ex_drewN)⟩
          case measure => simp [intOf]; omega
        · have d5 : (s != t) = true := by simpa using hst
          have HS := Lib.hid hst
          clear hst
          go_wp2_with fail
          go_quiet (fail)
          go_wp2_with fail
          go_ret
          exact ⟨ret_bool (by simpa using HM.out HS.out), (by first | exact ⟨_, rfl⟩ | exact ex_drewN)⟩
      · obtain rfl : j = x.length := by omega
        go_wp2_with fail
        go_ret
        exact ⟨ret_bool (by simpa using getD_ext HX.out HZJ.out), (by first | exact ⟨_, rfl⟩ | exact ex_drewN)⟩
  · have d3 : ((x.length : Int) != (y.length : Int)) = true := by simp; omega
    have d4 : (x.length != y.length) = true := by simp; omega
    have HX := Lib.hid hxy
    clear hxy
    go_enter Tryz.func11, Tryz.ntmps11
    go_wp2_with fail
    go_ret
    exact ⟨ret_bool (by simpa using HN.out HX.out), 0, rfl⟩
theorem quiet_more {P : Program} {f : FuncId} {args : Array Value} {w : World} {a n : Nat} {v : Value}
    (h : Calls P f args (w.drewN (a + n)) fun e w' => e = .returned v ∧ ∃ q, w' = (w.drewN (a + n)).drewN q) :
    Calls P f args (w.drewN (a + n)) fun e w'' => e = .returned v ∧ ∃ m, w'' = w.drewN (a + m) :=
  h.mono fun _ _ ⟨he, q, hq⟩ => ⟨he, n + q, by rw [hq, World.drewN_drewN, Nat.add_assoc]⟩
theorem quiet_more0 {P : Program} {f : FuncId} {args : Array Value} {w : World} {n : Nat} {v : Value}
    (h : Calls P f args (w.drewN n) fun e w' => e = .returned v ∧ ∃ q, w' = (w.drewN n).drewN q) :
    Calls P f args (w.drewN n) fun e w'' => e = .returned v ∧ ∃ m, w'' = w.drewN m :=
  h.mono fun _ _ ⟨he, q, hq⟩ => ⟨he, n + q, by rw [hq, World.drewN_drewN]⟩
set_option maxRecDepth 100000 in
set_option maxHeartbeats 400000 in
theorem sameLists18_any (w : World) (va vb : Value) (A B : List (List Int)) (ha : Tab w va A) (hb : Tab w vb B) :
    Calls Tryz.prog 16 #[va, vb] w fun e w' => e = .returned (.bool (decide (A = B))) ∧ ∃ q, w' = w.drewN q := by
  obtain ⟨A0, ca, rfl, ha1, ha2, ha3⟩ := ha.open_
  obtain ⟨B0, cb, rfl, hb1, hb2, hb3⟩ := hb.open_
  have HA := Lib.hid ha3
  have HB := Lib.hid hb3
  clear ha hb ha3 hb3
  by_cases hl : A.length = B.length
  · have d1 : ((A.length : Int) != (B.length : Int)) = false := by simp; omega
    have d2 : (A.length != B.length) = false := by simp; omega
    have HL := Lib.hid hl
    clear hl
    go_enter Tryz.func16, Tryz.ntmps16
    go_wp2_with fail
    go_loopw [5] (fun i wr => ∃ k : Nat, k ≤ A.length ∧ i = .int .i64 k ∧ (∀ j, j < k → A.getD j [] = B.getD j []) ∧ ∃ q, wr = w.drewN q) (fun i _ => A.length - (intOf i).toNat)
    case atStart => exact ⟨0, Nat.zero_le _, rfl, fun j hj => absurd hj (by omega), 0, rfl⟩
    case round =>
      obtain ⟨k, hk, rfl, hz, q, rfl⟩ := hrel
      have HZ := Lib.hid hz
      clear hz
      by_cases hlt : k < A.length
      · obtain ⟨b1, o1, rfl, hc1⟩ := HA.out (by omega)
        obtain ⟨b2, o2, rfl, hc2⟩ := HB.out (by rw [← HL.out]; omega)
        obtain ⟨u1, hu1, hr1⟩ := hc1 k hlt
        obtain ⟨u2, hu2, hr2⟩ := hc2 k (by rw [← HL.out]; omega)
        obtain ⟨A3, c3, rfl, -, -, -⟩ := id hr1.open_
        obtain ⟨A4, c4, rfl, -, -, -⟩ := id hr2.open_
        have hk0 : (0 : Int) ≤ (k : Int) := Int.natCast_nonneg _
        have hkb : (k : Int) < (B.length : Int) := by rw [← HL.out]; omega
        have hka : (k : Int) < (A.length : Int) := by omega
        have HN := Lib.hid (fun h => getD_ne (A := A) (B := B) (d := []) (k := k) h)
        have HSM : Hid (∀ q, Calls Tryz.prog 11 #[.slice A3 (A.getD k []).length c3, .slice A4 (B.getD k []).length c4] (w.drewN q) fun e w' => e = .returned (.bool (decide (A.getD k [] = B.getD k []))) ∧ ∃ q', w' = (w.drewN q).drewN q') := Lib.hid fun q => same17_any (w.drewN q) _ _ _ _ (hr1.drewN q) (hr2.drewN q)
        generalize hxe : A.getD k [] = x at *
        generalize hye : B.getD k [] = y at *
        have HXE := Lib.hid hxe
        have HYE := Lib.hid hye
        clear hxe hye hc1 hc2 hr1 hr2
        by_cases hxy : x = y
        · have hd : decide (x = y) = true := decide_eq_true hxy
          rw [hd] at HSM
          have HXY := Lib.hid hxy
          clear hxy hd
          generalize x.length = lx at *
          generalize y.length = ly at *
          go_wp2_with fail
          go_quiet ((go_at_call 11; first | exact quiet_more (HSM.out _) | exact quiet_more0 (HSM.out _)))
          go_wp2_with fail
          go_roundw
          case rel => exact ⟨k + 1, by omega, by go_num, all_succ HZ.out (by rw [HXE.out, HYE.out]; exact HXY.out), (by first | exact ⟨_, rfl⟩ | exact ex_drewN)⟩
          case measure => simp [intOf]; omega
        · have hd : decide (x = y) = false := decide_eq_false hxy
          rw [hd] at HSM
          have HXY := Lib.hid hxy
          clear hxy hd
          generalize x.length = lx at *
          generalize y.length = ly at *
          go_wp2_with fail
          go_quiet ((go_at_call 11; first | exact quiet_more (HSM.out _) | exact quiet_more0 (HSM.out _)))
          go_wp2_with fail
          go_ret
          exact ⟨ret_bool (by simpa using HN.out HXY.out), (by first | exact ⟨_, rfl⟩ | exact ex_drewN)⟩
      · obtain rfl : k = A.length := by omega
        go_wp2_with fail
        go_ret
        exact ⟨ret_bool (by simpa using getD_ext HL.out HZ.out), _, rfl⟩
  · have d1 : ((A.length : Int) != (B.length : Int)) = true := by simp; omega
    have d2 : (A.length != B.length) = true := by simp; omega
    have HL := Lib.hid hl
    clear hl
    go_enter Tryz.func16, Tryz.ntmps16
    go_wp2_with fail
    go_ret
    exact ⟨ret_bool (by simpa using fun e => HL.out (by rw [e])), 0, rfl⟩
theorem row32_any (w : World) (A : Option Addr) (n c : Nat) : Calls Tryz.prog 15 #[.slice A n c] w fun e w' => e = .returned (.slice A n c) ∧ w = w' := by
  go_enter Tryz.func15, Tryz.ntmps15
  go_wp2_with fail
  go_ret
  exact ⟨rfl, rfl⟩
end Go.Proofs
namespace Go.Proofs.Sm
theorem out_two : Out 2 [[2, 4], [6, 8]] (some ⟨[[2, 0], [0, 4]], [[1, 0], [3, -1]], [[1, -2], [0, 1]], 2⟩) := ⟨20, by rfl⟩
theorem out_six : Out 2 [[6, 0], [0, 4]] (some ⟨[[2, 0], [0, 12]], [[1, 1], [2, 3]], [[1, -2], [-1, 3]], 2⟩) := ⟨20, by rfl⟩
end Go.Proofs.Sm
namespace Go.Proofs
open Go.RowKit Go.Shelf Go.Proofs.Sm
theorem is30_true (w : World) (va vb : Value) (x : List Int) (free : Int) (ha : IntsAt w va x) (hb : IntsAt w vb x) :
    Calls Tryz.prog 17 #[va, .int .i64 free, .int .i64 0, .int .i64 free, vb] w fun e w' => e = .returned (.bool true) ∧ ∃ q, w' = w.drewN q := by
  have hs := same17_any w va vb x x ha hb
  rw [decide_eq_true rfl] at hs
  have HS := Lib.hid hs
  have hd : (free == free) = true := by simp
  obtain ⟨A3, c3, rfl, -, -, -⟩ := ha.open_
  obtain ⟨A4, c4, rfl, -, -, -⟩ := hb.open_
  clear ha hb hs
  generalize x.length = lx at *
  go_enter Tryz.func17, Tryz.ntmps17
  go_wp2_with (go_at_call 11; (refine HS.out.mono ?_); rintro e w' ⟨rfl, q, rfl⟩)
  go_ret
  exact ⟨rfl, _, rfl⟩
/-- two numbers in a block just laid -/
theorem ints_two {w : World} {B : Nat} {a b : Int} (h : w.heap[B]? = some (.cells #[.int .i64 a, .int .i64 b] 3 (0, 0))) (ha : In64 a) (hb : In64 b) : IntsAt w (.slice (some ⟨B, 0, none⟩) 2 2) [a, b] := by
  refine ⟨⟨_, 2, 2, rfl, rfl, Nat.le_refl _, by simp [maxLen], fun _ => ⟨B, 0, rfl, fun j v hv => ?_⟩⟩, fun z hz => ?_⟩
  · rw [cell_of_row _ _ _ _ _ _ h, Nat.zero_add, ← hv]
    have : j = 0 ∨ j = 1 := by
      have := (List.getElem?_eq_some_iff.1 hv).1
      simp [ints] at this; omega
    rcases this with rfl | rfl <;> rfl
  · rcases List.mem_cons.1 hz with rfl | hz
    · exact ha
    · rcases List.mem_cons.1 hz with rfl | hz
      · exact hb
      · cases hz
/-- two rows in a block just laid -/
theorem tab_two {w : World} {B : Nat} {u v : Value} {x y : List Int} (h : w.heap[B]? = some (.cells #[u, v] 25 (0, 0))) (hu : IntsAt w u x) (hv : IntsAt w v y) : Tab w (.slice (some ⟨B, 0, none⟩) 2 2) [x, y] := by
  refine ⟨[u, v], ⟨_, 2, 2, rfl, rfl, Nat.le_refl _, by simp [maxLen], fun _ => ⟨B, 0, rfl, fun j z hz => ?_⟩⟩, rfl, fun i hi => ?_⟩
  · rw [cell_of_row _ _ _ _ _ _ h, Nat.zero_add]
    simpa using hz
  · have : i = 0 ∨ i = 1 := by simp at hi; omega
    rcases this with rfl | rfl
    · exact ⟨u, rfl, hu⟩
    · exact ⟨v, rfl, hv⟩
/-- a literal of two rows of two numbers -/
def lit22 (w : World) (a b c e : Int) : World := ((w.alloc (.cells #[.int .i64 a, .int .i64 b] 3)).alloc (.cells #[.int .i64 c, .int .i64 e] 3)).alloc (.cells #[.slice (some ⟨w.heap.size, 0, none⟩) 2 2, .slice (some ⟨w.heap.size + 1, 0, none⟩) 2 2] 25)
theorem lit22_below (w : World) (a b c e : Int) : Below w.heap.size w (lit22 w a b c e) := (((Below.refl _ _).alloc (Nat.le_refl _) _).alloc (by simp) _).alloc (by simp; omega) _
theorem lit22_tab (w : World) {a b c e : Int} (ha : In64 a) (hb : In64 b) (hc : In64 c) (he : In64 e) : Tab (lit22 w a b c e) (.slice (some ⟨w.heap.size + 1 + 1, 0, none⟩) 2 2) [[a, b], [c, e]] := by
  have h0 := heap_alloc_new w (.cells #[.int .i64 a, .int .i64 b] 3)
  have h1 := heap_alloc_new (w.alloc (.cells #[.int .i64 a, .int .i64 b] 3)) (.cells #[.int .i64 c, .int .i64 e] 3)
  rw [World.size_alloc] at h1
  have k1 := (Below.refl (w.alloc (.cells #[.int .i64 a, .int .i64 b] 3)).heap.size (w.alloc (.cells #[.int .i64 a, .int .i64 b] 3))).alloc (Nat.le_refl _) (.cells #[.int .i64 c, .int .i64 e] 3)
  have k2 := (Below.refl ((w.alloc (.cells #[.int .i64 a, .int .i64 b] 3)).alloc (.cells #[.int .i64 c, .int .i64 e] 3)).heap.size ((w.alloc (.cells #[.int .i64 a, .int .i64 b] 3)).alloc (.cells #[.int .i64 c, .int .i64 e] 3))).alloc (Nat.le_refl _) (.cells #[.slice (some ⟨w.heap.size, 0, none⟩) 2 2, .slice (some ⟨w.heap.size + 1, 0, none⟩) 2 2] 25)
  have h2 := heap_alloc_new ((w.alloc (.cells #[.int .i64 a, .int .i64 b] 3)).alloc (.cells #[.int .i64 c, .int .i64 e] 3)) (.cells #[.slice (some ⟨w.heap.size, 0, none⟩) 2 2, .slice (some ⟨w.heap.size + 1, 0, none⟩) 2 2] 25)
  rw [World.size_alloc, World.size_alloc] at h2
  rw [World.size_alloc] at k1
  rw [World.size_alloc, World.size_alloc] at k2
  exact tab_two h2 (ints_two ((k2.block _ (by omega)).trans ((k1.block _ (by omega)).trans h0)) ha hb) (ints_two ((k2.block _ (by omega)).trans h1) hc he)
theorem smE_two : SmE 2 [[2, 4], [6, 8]] [2, 4] [[1, 0], [3, -1]] [[1, -2], [0, 1]] 0 := .inr ⟨by decide, .inr ⟨_, out_two, rfl, rfl, rfl, rfl⟩⟩
theorem grE_six : GrE 2 [[6, 0], [0, 4]] [2, 12] 0 0 := ⟨[2, 12], _, _, 0, .inr ⟨by decide, .inr ⟨_, out_six, rfl, rfl, rfl, rfl⟩⟩, .inr ⟨rfl, rfl, rfl, rfl⟩⟩
theorem in64_small {x : Int} (h : -1000 ≤ x ∧ x ≤ 1000) : In64 x := by unfold In64; omega
set_option maxRecDepth 100000 in
set_option maxHeartbeats 1000000 in
theorem lives9_any (w : World) : Calls Tryz.prog 4 #[] w fun e w' => e = .returned (.bool true) ∧ Below w.heap.size w w' := by
  have HS := Lib.hid (smith11_any (lit22 w 2 4 6 8) 2 _ _ (lit22_tab w (in64_small (by omega)) (in64_small (by omega)) (in64_small (by omega)) (in64_small (by omega))) smE_two)
  have HG : Hid (∀ W, Calls Tryz.prog 14 #[.int .i64 2, .slice (some ⟨W.heap.size + 1 + 1, 0, none⟩) 2 2] (lit22 W 6 0 0 4) (GroupPost [2, 12] 0 0 (lit22 W 6 0 0 4))) := Lib.hid fun W => group13_any (lit22 W 6 0 0 4) 2 _ _ (lit22_tab W (in64_small (by omega)) (in64_small (by omega)) (in64_small (by omega)) (in64_small (by omega))) grE_six
  have HR := Lib.hid row32_any
  have HB0 := Lib.hid (lit22_below w 2 4 6 8)
  unfold lit22 at HS HG
  go_enter Tryz.func4, Tryz.ntmps4
  go_wp2_with (first
    | (go_at_call 13; (refine HS.out.mono ?_); rintro e w1 ⟨⟨vd, vu, vv, rfl, hd, hu, hv⟩, hb⟩
       obtain ⟨Ad, cd, rfl, -, -, -⟩ := id hd.open_
       obtain ⟨Au, cu, rfl, -, -, -⟩ := LAt.open_ hu
       obtain ⟨Av, cv, rfl, -, -, -⟩ := LAt.open_ hv
       have HB1 := Lib.hid (HB0.out.trans (hb.mono HB0.out.size))
       have H17 : Hid (∀ W, Below w1.heap.size w1 W → Calls Tryz.prog 11 #[.slice Ad 2 cd, .slice (some ⟨W.heap.size, 0, none⟩) 2 2] (W.alloc (.cells #[.int .i64 2, .int .i64 4] 3)) fun e w' => e = .returned (.bool true) ∧ Below W.heap.size W w') := Lib.hid fun W hW =>
         (same17_any (W.alloc (.cells #[.int .i64 2, .int .i64 4] 3)) _ _ [2, 4] [2, 4] (kept_ints.below hd (hW.alloc hW.size _)) (ints_two (heap_alloc_new W _) (in64_small (by omega)) (in64_small (by omega)))).mono fun e w' ⟨h1, q, h2⟩ => ⟨h1, by rw [h2]; exact below_drewN ((Below.refl _ _).alloc (Nat.le_refl _) _) q⟩
       have H18u : Hid (∀ W, Below w1.heap.size w1 W → Calls Tryz.prog 16 #[.slice Au 2 cu, .slice (some ⟨W.heap.size + 1 + 1, 0, none⟩) 2 2] (lit22 W 1 0 3 (-1)) fun e w' => e = .returned (.bool true) ∧ Below W.heap.size W w') := Lib.hid fun W hW =>
         (sameLists18_any (lit22 W 1 0 3 (-1)) _ _ [[1, 0], [3, -1]] [[1, 0], [3, -1]] (kept_tab.below hu (hW.trans ((lit22_below W 1 0 3 (-1)).mono hW.size))) (lit22_tab W (in64_small (by omega)) (in64_small (by omega)) (in64_small (by omega)) (in64_small (by omega)))).mono fun e w' ⟨h1, q, h2⟩ => ⟨h1, by rw [h2]; exact below_drewN (lit22_below W 1 0 3 (-1)) q⟩
       have H18v : Hid (∀ W, Below w1.heap.size w1 W → Calls Tryz.prog 16 #[.slice Av 2 cv, .slice (some ⟨W.heap.size + 1 + 1, 0, none⟩) 2 2] (lit22 W 1 (-2) 0 1) fun e w' => e = .returned (.bool true) ∧ Below W.heap.size W w') := Lib.hid fun W hW =>
         (sameLists18_any (lit22 W 1 (-2) 0 1) _ _ [[1, -2], [0, 1]] [[1, -2], [0, 1]] (kept_tab.below hv (hW.trans ((lit22_below W 1 (-2) 0 1).mono hW.size))) (lit22_tab W (in64_small (by omega)) (in64_small (by omega)) (in64_small (by omega)) (in64_small (by omega)))).mono fun e w' ⟨h1, q, h2⟩ => ⟨h1, by rw [h2]; exact below_drewN (lit22_below W 1 (-2) 0 1) q⟩
       unfold lit22 at H18u H18v
       clear hd hu hv hb)
    | (go_at_call 14; (refine (HG.out _).mono ?_); rintro e w2 ⟨⟨vt, rfl, ht⟩, hb⟩
       obtain ⟨At, ct, rfl, -, -, -⟩ := id ht.open_
       have HB2 := Lib.hid ((lit22_below w1 6 0 0 4).trans (hb.mono (lit22_below w1 6 0 0 4).size))
       have H30 : Hid (∀ W, Below w2.heap.size w2 W → Calls Tryz.prog 17 #[.slice At 2 ct, .int .i64 0, .int .i64 0, .int .i64 0, .slice (some ⟨W.heap.size, 0, none⟩) 2 2] (W.alloc (.cells #[.int .i64 2, .int .i64 12] 3)) fun e w' => e = .returned (.bool true) ∧ Below W.heap.size W w') := Lib.hid fun W hW =>
         (is30_true (W.alloc (.cells #[.int .i64 2, .int .i64 12] 3)) _ _ [2, 12] 0 (kept_ints.below ht (hW.alloc hW.size _)) (ints_two (heap_alloc_new W _) (in64_small (by omega)) (in64_small (by omega)))).mono fun e w' ⟨h1, q, h2⟩ => ⟨h1, by rw [h2]; exact below_drewN ((Below.refl _ _).alloc (Nat.le_refl _) _) q⟩
       clear ht hb)
    | (go_at_call 15; (refine (HR.out _ _ _ _).mono ?_); rintro e w' ⟨rfl, rfl⟩)
    | (go_at_call 11; (refine (H17.out w2 HB2.out).mono ?_); rintro e w3 ⟨rfl, hb⟩; have HB3 := Lib.hid hb; clear hb)
    | (go_at_call 16; (with_reducible refine (H18u.out w3 (HB2.out.trans (HB3.out.mono HB2.out.size))).mono ?_); rintro e w4 ⟨rfl, hb⟩; have HB4 := Lib.hid (HB3.out.trans (hb.mono HB3.out.size)); clear hb)
    | (go_at_call 16; (with_reducible refine (H18v.out w4 (HB2.out.trans (HB4.out.mono HB2.out.size))).mono ?_); rintro e w5 ⟨rfl, hb⟩; have HB5 := Lib.hid (HB4.out.trans (hb.mono HB4.out.size)); clear hb)
    | (go_at_call 17; (refine (H30.out w5 HB5.out).mono ?_); rintro e w6 ⟨rfl, hb⟩; have HB6 := Lib.hid (HB5.out.trans (hb.mono HB5.out.size)); clear hb))
  go_ret
  exact ⟨rfl, HB1.out.trans ((HB2.out.trans (HB6.out.mono HB2.out.size)).mono HB1.out.size)⟩
end Go.Proofs
namespace Go.Proofs
open Go.RowKit Go.Shelf Go.Proofs.Sm
section
variable {base : Nat} {w w' : World} {v : Value} {bl cs : Nat → Nat} {m : Mat}
theorem MatM.same (h : MatM base w v bl cs m) (hv : ∀ r, v.ownBlock = some r → w'.heap[r]? = w.heap[r]?) (hb : ∀ i, i < m.length → w'.heap[bl i]? = w.heap[bl i]?) : MatM base w' v bl cs m :=
  ⟨owns_keep h.out hv, fun i hi => let ⟨a, b, c⟩ := h.row i hi; ⟨a, b.keep (hb i hi), c⟩, h.inj⟩
theorem MatM.row_ty (h : MatM base w v bl cs m) {i : Nat} (hi : i < m.length) : ∃ C, w.heap[bl i]? = some (.cells C 3 (0, 0)) := by
  obtain ⟨-, ⟨C, hC, -⟩, -⟩ := h.row i hi
  exact ⟨C, hC⟩
theorem MatM.nil (base : Nat) (w : World) : MatM base w (.slice none 0 0) (fun _ => 0) (fun _ => 0) [] := ⟨World.ownsRow_nil _ _ _ _, fun _i hi => absurd hi (Nat.not_lt_zero _), fun _i _j hi => absurd hi (Nat.not_lt_zero _)⟩
theorem MatM.form (h : MatM base w v bl cs m) : ∃ A c, v = .slice A m.length c := owns_form h.out
theorem MatM.tab (h : MatM base w v bl cs m) (hf : ∀ y ∈ m, Fits y) : Tab w v m :=
  ⟨_, sl_of_owns h.out, by simp, fun i hi => by
    obtain ⟨-, hX, h1, h2⟩ := h.row i hi
    exact ⟨.slice (some ⟨bl i, 0, none⟩) (m.getD i []).length (cs i), by simp only [List.getElem?_map, List.getElem?_range hi, Option.map_some], hX.ints rfl h1 h2 (hf _ (by rw [List.getD_eq_getElem?_getD, List.getElem?_eq_getElem hi]; exact List.getElem_mem hi))⟩⟩
/-- a block of another type is written -/
theorem MatM.other (h : MatM base w v bl cs m) {b k : Nat} {C : Array Value} {T : TypeId} (hb : w.heap[b]? = some (.cells C T (0, 0))) (h3 : T ≠ 3) (h25 : T ≠ 25) (u : Value) : MatM base (w.setCell ⟨b, k, none⟩ u) v bl cs m := by
  have hne : ∀ p, p ≠ b → (w.setCell ⟨b, k, none⟩ u).heap[p]? = w.heap[p]? := fun p hp => Below.heap_setCell w ⟨b, k, none⟩ u p hp
  refine h.same (fun r hr => hne r fun e => ?_) (fun i hi => hne _ fun e => ?_)
  · obtain ⟨-, C', hC'⟩ := owns_block h.out r hr
    rw [e, hb] at hC'
    injection hC' with h5
    injection h5 with _ h6 _
    exact h25 h6
  · obtain ⟨C', hC'⟩ := h.row_ty hi
    rw [e, hb] at hC'
    injection hC' with h5
    injection h5 with _ h6 _
    exact h3 h6
set_option maxRecDepth 10000 in
/-- a row of the call's own joins -/
theorem MatM.push (h : MatM base w v bl cs m) (hbw : base ≤ w.heap.size) {g c : Nat} {xs : List Int} (hx : XsAt w g xs) (hg : base ≤ g) (hc : xs.length ≤ c) (hcm : c ≤ 9223372036854775807) (hnew : ∀ i, i < m.length → bl i ≠ g) (hl : m.length ≤ 1000000) :
    ∃ A' c' w', (Builtin.append_ #[40, 40] 40 #[v, .slice (some ⟨w.heap.size, 0, none⟩) 1 1]).run Tryz.prog (w.alloc (.cells #[.slice (some ⟨g, 0, none⟩) xs.length c] 25)) = .ok (.slice A' (m.length + 1) c') w' ∧
      (∃ bl' cs', MatM base w' (.slice A' (m.length + 1) c') bl' cs' (m ++ [xs])) ∧ w.grownBy w' v.ownBlock := by
  obtain ⟨A', c', w', hr, ho, hgr, hw⟩ := run_push (ty := 40) Tryz.underlying40 info24p rfl (by omega) w base v m.length _ h.out (.slice (some ⟨g, 0, none⟩) xs.length c) rfl (by omega) hbw
  have hkeep : ∀ (p : Nat) (C : Array Value), w.heap[p]? = some (.cells C 3 (0, 0)) → w'.heap[p]? = w.heap[p]? := fun p C hp => hgr.block p (Array.getElem?_eq_some_iff.1 hp).1 (fun e2 => by
    obtain ⟨-, C', hC'⟩ := owns_block h.out p e2.symm
    rw [hp] at hC'
    injection hC' with h5
    injection h5 with _ h6 _
    exact absurd h6 (by decide))
  have hgl : ∀ i, i < m.length → (m ++ [xs]).getD i [] = m.getD i [] := fun i hi => by simp [List.getD_eq_getElem?_getD, List.getElem?_append_left hi]
  have hgl2 : (m ++ [xs]).getD m.length [] = xs := by simp [List.getD_eq_getElem?_getD]
  have hl1 : (m ++ [xs]).length = m.length + 1 := by simp
  obtain ⟨Cx, hCx, -⟩ := id hx
  refine ⟨A', c', w', hr, ⟨fun i => if i = m.length then g else bl i, fun i => if i = m.length then c else cs i, ?_, fun i hi => ?_, fun i j hi hj e => ?_⟩, hgr⟩
  · have e2 : (List.range (m.length + 1)).map (fun i => Value.slice (some ⟨if i = m.length then g else bl i, 0, none⟩) ((m ++ [xs]).getD i []).length (if i = m.length then c else cs i)) = ((List.range m.length).map fun i => Value.slice (some ⟨bl i, 0, none⟩) (m.getD i []).length (cs i)) ++ [.slice (some ⟨g, 0, none⟩) xs.length c] := by
      rw [List.range_succ, List.map_append]
      congr 1
      · refine List.map_congr_left fun i hi => ?_
        have hi' := List.mem_range.1 hi
        rw [if_neg (by omega), if_neg (by omega), hgl i hi']
      · simp only [List.map_cons, List.map_nil, hgl2, if_true]
    rw [hl1, e2]
    exact ho
  · rw [hl1] at hi
    by_cases e : i = m.length
    · subst e
      rw [if_pos rfl, if_pos rfl, hgl2]
      exact ⟨hg, hx.keep (hkeep g Cx hCx), hc, hcm⟩
    · have hi' : i < m.length := by omega
      rw [if_neg e, if_neg e, hgl i hi']
      obtain ⟨a1, a2, a3⟩ := h.row i hi'
      obtain ⟨C, hC⟩ := h.row_ty hi'
      exact ⟨a1, a2.keep (hkeep _ C hC), a3⟩
  · rw [hl1] at hi hj
    by_cases c1 : i = m.length
    · by_cases c2 : j = m.length
      · omega
      · simp only [if_pos c1, if_neg c2] at e
        exact absurd e.symm (hnew j (by omega))
    · by_cases c2 : j = m.length
      · simp only [if_neg c1, if_pos c2] at e
        exact absurd e (hnew i (by omega))
      · simp only [if_neg c1, if_neg c2] at e
        exact h.inj i j (by omega) (by omega) e
end
/-- a Taker in memory: its list, which lies below its box, and its place -/
structure TkM (b : Nat) (w : World) (A : Option Addr) (c : Nat) (l : List Int) (at_ : Nat) : Prop where
  box : w.heap[b]? = some (.cells #[.slice A l.length c, .int .i64 (at_ : Int)] 999039 (0, 0))
  list : ∀ w', (∀ p, p < b → w'.heap[p]? = w.heap[p]?) → IntsAt w' (.slice A l.length c) l
  le : at_ ≤ l.length
theorem TkM.start {w : World} {A : Option Addr} {c : Nat} {l : List Int} (h : IntsAt w (.slice A l.length c) l) : TkM w.heap.size (w.alloc (.cells #[.slice A l.length c, .int .i64 0] 999039)) A c l 0 :=
  ⟨heap_alloc_new w _, fun _w' hw => kept_ints _ _ _ _ (fun k hk => (hw k hk).trans (Below.heap_alloc w _ k hk)) h, Nat.zero_le _⟩
theorem TkM.cells {b : Nat} {w : World} {A : Option Addr} {c : Nat} {l : List Int} {k : Nat} (h : TkM b w A c l k) : w.cell? ⟨b, 0, none⟩ = some (.slice A l.length c) ∧ w.cell? ⟨b, 1, none⟩ = some (.int .i64 (k : Int)) ∧ w.frozen? ⟨b, 1, none⟩ = false :=
  ⟨by rw [cell_of_row _ _ _ _ _ _ h.box]; rfl, by rw [cell_of_row _ _ _ _ _ _ h.box]; rfl, by simp [World.frozen?, h.box]⟩
theorem TkM.keep {b : Nat} {w w' : World} {A : Option Addr} {c : Nat} {l : List Int} {k : Nat} (h : TkM b w A c l k) (hb : ∀ p, p ≤ b → w'.heap[p]? = w.heap[p]?) : TkM b w' A c l k :=
  ⟨(hb b (Nat.le_refl _)).trans h.box, fun w'' hw => h.list w'' fun p hp => (hw p hp).trans (hb p (by omega)), h.le⟩
theorem TkM.lt {b : Nat} {w : World} {A : Option Addr} {c : Nat} {l : List Int} {k : Nat} (h : TkM b w A c l k) : b < w.heap.size := (Array.getElem?_eq_some_iff.1 h.box).1
theorem TkM.put {b : Nat} {w : World} {A : Option Addr} {c : Nat} {l : List Int} {k : Nat} (h : TkM b w A c l k) (hk : k < l.length) : TkM b (w.setCell ⟨b, 1, none⟩ (.int .i64 ((k + 1 : Nat) : Int))) A c l (k + 1) :=
  ⟨by rw [box_set h.box]; rfl, fun w' hw => h.list w' fun p hp => (hw p hp).trans (Below.heap_setCell w ⟨b, 1, none⟩ _ p (by show p ≠ b; omega)), hk⟩
/-- the number handed out at k, below n -/
def takeV (l : List Int) (k : Nat) (n : Int) : Int := if k < l.length then l.getD k 0 % n else 0
def takeN (l : List Int) (k : Nat) : Nat := if k < l.length then k + 1 else k
end Go.Proofs
namespace Go.Proofs
open Go.RowKit Go.Shelf Go.Proofs.Sm
/-- the e-th number drawn -/
def dr (l : List Int) (e : Nat) : Int := takeV l (min e l.length) 13 - 6
def drRow (l : List Int) (n i : Nat) : List Int := (List.range n).map fun k => dr l (i * n + k)
def drawnE (l : List Int) (rows n : Nat) : Mat := (List.range rows).map (drRow l n)
theorem take_min (l : List Int) (e : Nat) : takeN l (min e l.length) = min (e + 1) l.length := by
  unfold takeN
  split <;> omega
theorem drawnE_length (l : List Int) (rows n : Nat) : (drawnE l rows n).length = rows := by simp [drawnE]
theorem drRow_length (l : List Int) (n i : Nat) : (drRow l n i).length = n := by simp [drRow]
theorem drawnE_succ (l : List Int) (i n : Nat) : drawnE l (i + 1) n = drawnE l i n ++ [drRow l n i] := by simp [drawnE, List.range_succ]
theorem drPre_succ (l : List Int) (n i k : Nat) : (List.range (k + 1)).map (fun k => dr l (i * n + k)) = (List.range k).map (fun k => dr l (i * n + k)) ++ [dr l (i * n + k)] := by simp [List.range_succ]
/-- w' is w with new blocks and another block b -/
theorem gr_trans {w w1 w2 : World} {b : Nat} (h : w.grownBy w1 (some b)) (h' : w1.grownBy w2 (some b)) : w.grownBy w2 (some b) :=
  ⟨h'.os.trans h.os, h'.tape.trans h.tape, h'.output.trans h.output, Nat.le_trans h.size h'.size, fun i hi hne => (h'.block i (Nat.lt_of_lt_of_le hi h.size) hne).trans (h.block i hi hne)⟩
theorem gr_own {w w1 w2 : World} {b : Nat} {row : Option Nat} (h : w.grownBy w1 (some b)) (h' : w1.grownBy w2 row) (hr : ∀ r, row = some r → w.heap.size ≤ r) : w.grownBy w2 (some b) :=
  ⟨h'.os.trans h.os, h'.tape.trans h.tape, h'.output.trans h.output, Nat.le_trans h.size h'.size, fun i hi hne => (h'.block i (Nat.lt_of_lt_of_le hi h.size) (fun e => by have := hr i e.symm; omega)).trans (h.block i hi hne)⟩
/-- the drawing under way: i rows are whole, the next one has k numbers -/
structure DrawM (b n i k : Nat) (w wr : World) (At : Option Addr) (ct : Nat) (l : List Int) (v : Value) (bl cs : Nat → Nat) (vr : Value) : Prop where
  mat : MatM w.heap.size wr v bl cs (drawnE l i n)
  row : OwnI w.heap.size wr vr ((List.range k).map fun k => dr l (i * n + k))
  sep : ∀ j, j < i → vr.ownBlock ≠ some (bl j)
  tk : TkM b wr At ct l (min (i * n + k) l.length)
  gr : w.grownBy wr (some b)
theorem DrawM.sepv {b n i k : Nat} {w wr : World} {At : Option Addr} {ct : Nat} {l : List Int} {v : Value} {bl cs : Nat → Nat} {vr : Value} (h : DrawM b n i k w wr At ct l v bl cs vr) : ∀ r, v.ownBlock = some r → vr.ownBlock ≠ some r := fun r hr e => by
  obtain ⟨-, C, hC⟩ := owns_block h.mat.out r hr
  obtain ⟨-, C', hC'⟩ := owns_block h.row r e
  rw [hC] at hC'
  injection hC' with h5
  injection h5 with _ h6 _
  exact absurd h6 (by decide)
/-- a number is taken -/
theorem DrawM.taken {b n i k : Nat} {w wr w1 : World} {At : Option Addr} {ct : Nat} {l : List Int} {v : Value} {bl cs : Nat → Nat} {vr : Value} (h : DrawM b n i k w wr At ct l v bl cs vr) (hb : b < w.heap.size) (htk : TkM b w1 At ct l (takeN l (min (i * n + k) l.length))) (hg : wr.grownBy w1 (some b)) :
    MatM w.heap.size w1 v bl cs (drawnE l i n) ∧ OwnI w.heap.size w1 vr ((List.range k).map fun k => dr l (i * n + k)) ∧ TkM b w1 At ct l (min (i * n + (k + 1)) l.length) ∧ w.grownBy w1 (some b) := by
  refine ⟨h.mat.same (fun r hr => ?_) (fun j hj => ?_), owns_keep h.row fun r hr => ?_, by rw [take_min] at htk; exact htk, gr_trans h.gr hg⟩
  · have h1 := h.mat.lt.2 r hr
    exact hg.block r h1.2 (fun e => by have := Option.some.inj e; omega)
  · have h1 := h.mat.lt.1 j hj
    have h2 := (h.mat.row j hj).1
    exact hg.block _ h1 (fun e => by have := Option.some.inj e; omega)
  · have h1 := (owns_block h.row r hr).1
    exact hg.block r (owns_lt h.row hr) (fun e => by have := Option.some.inj e; omega)
/-- the number joins the row -/
theorem DrawM.add {b n i k : Nat} {w wr w1 : World} {At : Option Addr} {ct : Nat} {l : List Int} {v : Value} {bl cs : Nat → Nat} {vr : Value} (h : DrawM b n i k w wr At ct l v bl cs vr) (hb : b < w.heap.size) (htk : TkM b w1 At ct l (takeN l (min (i * n + k) l.length))) (hg : wr.grownBy w1 (some b)) (hk : k ≤ 1000) :
    ∃ A' c' w', (Builtin.append_ #[25, 25] 25 #[vr, .slice (some ⟨w1.heap.size, 0, none⟩) 1 1]).run Tryz.prog (w1.alloc (.cells #[.int .i64 (dr l (i * n + k))] 3)) = .ok (.slice A' (k + 1) c') w' ∧ DrawM b n i (k + 1) w w' At ct l v bl cs (.slice A' (k + 1) c') := by
  obtain ⟨h1, h2, h3, h4⟩ := h.taken hb htk hg
  have hlen : ((List.range k).map fun k => dr l (i * n + k)).length = k := by simp
  obtain ⟨A', c', w', hr, ho, hgr, hw⟩ := push_int 25 25 Tryz.underlying25 w1 w.heap.size vr _ h2 (dr l (i * n + k)) (by rw [hlen]; omega) h4.size
  rw [hlen] at hr ho hw
  rw [← drPre_succ] at ho
  have hrow := owns_block h2
  refine ⟨A', c', w', hr, h1.same (fun r hr' => hgr.block r (h1.lt.2 r hr').2 (fun e => h.sepv r hr' e.symm)) (fun j hj => hgr.block _ (h1.lt.1 j hj) (fun e => h.sep j (by rw [drawnE_length] at hj; exact hj) e.symm)), ho, fun j hj e => ?_, h3.keep fun p hp => hgr.block p (by have := h4.size; omega) (fun e => by have := (hrow p e.symm).1; omega), gr_own h4 hgr fun r hr' => (hrow r hr').1⟩
  rcases hw with hw | ⟨r, hr', hge⟩
  · exact h.sep j hj (by rw [← hw]; exact e)
  · rw [hr'] at e
    have e2 := Option.some.inj e
    have := h1.lt.1 j (by rw [drawnE_length]; exact hj)
    omega
/-- the row joins the matrix -/
theorem DrawM.done {b n i : Nat} {w wr : World} {At : Option Addr} {ct : Nat} {l : List Int} {A : Option Addr} {c : Nat} {v : Value} {bl cs : Nat → Nat} (h : DrawM b n i n w wr At ct l v bl cs (.slice A n c)) (hb : b < w.heap.size) (hn : 1 ≤ n) (hi : i ≤ 1000) :
    ∃ A' c' w' bl' cs', (Builtin.append_ #[40, 40] 40 #[v, .slice (some ⟨wr.heap.size, 0, none⟩) 1 1]).run Tryz.prog (wr.alloc (.cells #[.slice A n c] 25)) = .ok (.slice A' (i + 1) c') w' ∧ MatM w.heap.size w' (.slice A' (i + 1) c') bl' cs' (drawnE l (i + 1) n) ∧ TkM b w' At ct l (min ((i + 1) * n) l.length) ∧ w.grownBy w' (some b) := by
  have hrow : OwnI w.heap.size wr (.slice A (drRow l n i).length c) (drRow l n i) := by
    rw [drRow_length]; exact h.row
  obtain ⟨g, rfl, hx, hg, hc1, hc2⟩ := owns_xs hrow (by rw [drRow_length]; exact hn)
  obtain ⟨A', c', w', hr, ⟨bl', cs', hm⟩, hgr⟩ := h.mat.push h.gr.size hx hg hc1 hc2 (fun j hj e => h.sep j (by rw [drawnE_length] at hj; exact hj) (by show some g = some (bl j); rw [e])) (by rw [drawnE_length]; omega)
  rw [drawnE_length, drRow_length] at hr
  rw [drawnE_length, ← drawnE_succ] at hm
  have hv := owns_block h.mat.out
  refine ⟨A', c', w', bl', cs', hr, hm, ?_, gr_own h.gr hgr fun r hr' => (hv r hr').1⟩
  have htk := h.tk
  rw [show i * n + n = (i + 1) * n by rw [Nat.add_mul]; omega] at htk
  exact htk.keep fun p hp => hgr.block p (by have := h.gr.size; omega) (fun e => by have := (hv p e.symm).1; omega)
end Go.Proofs
namespace Go.Proofs
open Go.RowKit Go.Shelf Go.Proofs.Sm
theorem wr_wrap64 (n : Int) : wrap64 n = wr n := by unfold wrap64 wr; rfl
/-- a product under way -/
structure MulM (g i : Nat) (w wr : World) (a b : Mat) (n : Nat) (v : Value) (bl cs : Nat → Nat) (xs : List Int) : Prop where
  mat : MatM w.heap.size wr v bl cs ((mulW n a b).take i)
  row : XsAt wr g xs
  ge : w.heap.size ≤ g
  sep : ∀ j, j < ((mulW n a b).take i).length → bl j ≠ g
  below : Below w.heap.size w wr
theorem MulM.set {g i : Nat} {w wr : World} {a b : Mat} {n : Nat} {v : Value} {bl cs : Nat → Nat} {xs : List Int} (h : MulM g i w wr a b n v bl cs xs) {k : Nat} (hk : k < xs.length) (z : Int) : MulM g i w (wr.setCell ⟨g, k, none⟩ (.int .i64 z)) a b n v bl cs (xs.set k z) := by
  obtain ⟨C, hC, -⟩ := id h.row
  have hne : ∀ p, p ≠ g → (wr.setCell ⟨g, k, none⟩ (.int .i64 z)).heap[p]? = wr.heap[p]? := fun p hp => Below.heap_setCell wr ⟨g, k, none⟩ _ p hp
  refine ⟨h.mat.same (fun r hr => hne r fun e => ?_) (fun j hj => hne _ (h.sep j hj)), h.row.set hk z, h.ge, h.sep, h.below.setCell (p := ⟨g, k, none⟩) h.ge _⟩
  obtain ⟨-, C', hC'⟩ := owns_block h.mat.out r hr
  rw [e, hC] at hC'
  injection hC' with h5
  injection h5 with _ h6 _
  exact absurd h6 (by decide)
theorem MulM.drew {g i : Nat} {w wr : World} {a b : Mat} {n : Nat} {v : Value} {bl cs : Nat → Nat} {xs : List Int} (h : MulM g i w wr a b n v bl cs xs) (q : Nat) : MulM g i w (wr.drewN q) a b n v bl cs xs := ⟨h.mat.same (fun _ _ => rfl) (fun _ _ => rfl), h.row.keep rfl, h.ge, h.sep, below_drewN h.below q⟩
end Go.Proofs
namespace Go.Proofs
open Go.RowKit Go.Shelf Go.Proofs.Sm
theorem own37_any (w : World) (v : Value) (y : List Int) (h : IntsAt w v y) (hl : y.length ≤ 1000000) :
    Calls Tryz.prog 60 #[v] w fun e w' => ∃ A c, e = .returned (.slice A y.length c) ∧ OwnI w.heap.size w' (.slice A y.length c) y ∧ Below w.heap.size w w' := by
  obtain ⟨A0, c0, w', hr, hb, ho⟩ := run_copy Tryz.underlying25 h hl
  have HR := Lib.hid hr
  have HB := Lib.hid hb
  have HO := Lib.hid ho
  clear hr hb ho h
  go_enter Tryz.func60, Tryz.ntmps60
  go_wp2_with ((with_reducible refine wpList_sel 5 ?_); refine wpList_val rfl (r_app (.tmp 3) (.tmp 4) 25 rfl rfl rfl HR.out) ?_)
  go_ret
  exact ⟨_, _, rfl, HO.out, HB.out⟩
end Go.Proofs
namespace Go.Proofs
open Go.RowKit Go.Shelf Go.Proofs.Sm
theorem size62_any (w : World) (x : Int) (hx : -16 ≤ x ∧ x ≤ 16) : Calls Tryz.prog 42 #[.int .i64 x] w fun e w' => e = .returned (.int .u64 (x.natAbs : Int)) ∧ w = w' := by
  by_cases h : x < 0
  · have hw1 : IntKind.u64.wrap x = x + 18446744073709551616 := by unfold IntKind.wrap; simp [IntKind.signed, IntKind.bits]; omega
    have hw2 : IntKind.u64.wrap (-(x + 18446744073709551616)) = (x.natAbs : Int) := by unfold IntKind.wrap; simp [IntKind.signed, IntKind.bits]; omega
    go_enter Tryz.func42, Tryz.ntmps42
    go_wp2_with fail
    go_ret
    exact ⟨rfl, rfl⟩
  · have hx2 : (x.natAbs : Int) = x := by omega
    have hw1 : IntKind.u64.wrap x = x := by unfold IntKind.wrap; simp [IntKind.signed, IntKind.bits]; omega
    go_enter Tryz.func42, Tryz.ntmps42
    go_wp2_with fail
    go_ret
    exact ⟨rfl, rfl⟩
theorem nan78_any (w : World) (x : Int) : Calls Tryz.prog 57 #[.int .i64 x] w fun e w' => e = .returned (.bool false) ∧ w = w' := by
  have h : (x != x) = false := by simp
  go_enter Tryz.func57, Tryz.ntmps57
  go_wp2_with fail
  go_ret
  exact ⟨rfl, rfl⟩
theorem compare63_zero (w : World) (x : Int) : Calls Tryz.prog 43 #[.int .i64 x, .int .i64 0] w fun e w' => e = .returned (.int .i64 (if x < 0 then -1 else if 0 < x then 1 else 0)) ∧ w = w' := by
  have HN := Lib.hid (nan78_any)
  rcases Int.lt_trichotomy x 0 with h | h | h
  · rw [if_pos h]
    go_enter Tryz.func43, Tryz.ntmps43
    go_wp2_with (go_at_call 57; (refine (HN.out _ _).mono ?_); rintro e w' ⟨rfl, rfl⟩)
    go_ret
    exact ⟨rfl, rfl⟩
  · subst h
    go_enter Tryz.func43, Tryz.ntmps43
    go_wp2_with (go_at_call 57; (refine (HN.out _ _).mono ?_); rintro e w' ⟨rfl, rfl⟩)
    go_ret
    exact ⟨rfl, rfl⟩
  · rw [if_neg (by omega), if_pos h]
    have h2 : decide (x < 0) = false := decide_eq_false (by omega)
    go_enter Tryz.func43, Tryz.ntmps43
    go_wp2_with (go_at_call 57; (refine (HN.out _ _).mono ?_); rintro e w' ⟨rfl, rfl⟩)
    go_ret
    exact ⟨rfl, rfl⟩
/-- a word of n generators -/
def WordOk (n : Nat) (xs : List Int) : Prop := xs.length ≤ 4000 ∧ ∀ c ∈ xs, c ≠ 0 ∧ -(n : Int) ≤ c ∧ c ≤ n
set_option maxRecDepth 100000 in
theorem check61_ok (w : World) (v : Value) (xs : List Int) (n : Nat) (h : IntsAt w v xs) (hn : 1 ≤ n) (hn2 : n ≤ 16) (hk : WordOk n xs) : Calls Tryz.prog 41 #[v, .int .i64 (n : Int)] w fun e w' => e = .returned (.int .i64 0) ∧ ∃ q, w' = w.drewN q := by
  obtain ⟨A, c, rfl, h1, h2, h3⟩ := h.open_
  have HC := Lib.hid h3
  have HK : Hid (∀ k, k < xs.length → xs.getD k 0 ≠ 0 ∧ -(n : Int) ≤ xs.getD k 0 ∧ xs.getD k 0 ≤ n) := Lib.hid fun k hk' => hk.2 _ (by rw [List.getD_eq_getElem?_getD, List.getElem?_eq_getElem hk']; exact List.getElem_mem hk')
  have hl := hk.1
  have hli : (xs.length : Int) ≤ 4000 := by omega
  have hni : (1 : Int) ≤ (n : Int) := by omega
  have hni2 : (n : Int) ≤ 16 := by omega
  clear h h3 hk
  generalize xs.length = L at *
  go_enter Tryz.func41, Tryz.ntmps41
  go_wp2_with fail
  go_loopw [18] (fun z wr => ∃ k : Nat, k ≤ L ∧ z = .int .i64 k ∧ ∃ q, wr = w.drewN q) (fun z _ => L - (intOf z).toNat)
  case atStart => exact ⟨0, by omega, rfl, 0, rfl⟩
  case round =>
    obtain ⟨k, hk, rfl, q, rfl⟩ := hrel
    have hk0 : (0 : Int) ≤ (k : Int) := Int.natCast_nonneg _
    by_cases hkl : k < L
    · have hkl' : (k : Int) < (L : Int) := by omega
      obtain ⟨b, o, rfl, hcc⟩ := HC.out (by omega)
      have hx := hcc k hkl
      obtain ⟨e1, e2, e3⟩ := HK.out k hkl
      clear hcc
      generalize xs.getD k 0 = z at *
      have f1 : (z == 0) = false := by rw [beq_eq_false_iff_ne]; exact e1
      have f2 : decide ((n : Int) < z) = false := decide_eq_false (by omega)
      have f3 : decide (z < -(n : Int)) = false := decide_eq_false (by omega)
      clear e1
      go_wp2_with fail
      go_roundw
      case rel => exact ⟨k + 1, by omega, by go_num, (by first | exact ⟨_, rfl⟩ | exact ex_drewN)⟩
      case measure => simp [intOf]; omega
    · obtain rfl : k = L := by omega
      go_wp2_with fail
      go_ret
      exact ⟨rfl, _, rfl⟩
end Go.Proofs
namespace Go.Proofs
open Go.RowKit Go.Shelf Go.Proofs.Sm
/-- how often a letter of the generator k stands in a word, inverses counted off -/
def sumAt (xs : List Int) (k : Nat) : Int := (xs.count ((k : Int) + 1) : Int) - (xs.count (-((k : Int) + 1)) : Int)
def sumsE (n : Nat) (xs : List Int) : List Int := (List.range n).map (sumAt xs)
theorem sumsE_length (n : Nat) (xs : List Int) : (sumsE n xs).length = n := by simp [sumsE]
theorem sumsE_getD {n k : Nat} (xs : List Int) (hk : k < n) : (sumsE n xs).getD k 0 = sumAt xs k := by simp [sumsE, List.getD_eq_getElem?_getD, hk]
theorem sumsE_nil (n : Nat) : sumsE n [] = List.replicate n 0 := by
  apply List.ext_getElem (by simp [sumsE])
  intro i h1 h2
  simp [sumsE, sumAt]
def sgnI (c : Int) : Int := if c < 0 then -1 else if 0 < c then 1 else 0
theorem sumAt_snoc (xs : List Int) {c : Int} (_hc : c ≠ 0) (k : Nat) : sumAt (xs ++ [c]) k = if k + 1 = c.natAbs then sumAt xs k + sgnI c else sumAt xs k := by
  unfold sumAt sgnI
  rw [List.count_append, List.count_append, List.count_singleton, List.count_singleton]
  simp only [beq_iff_eq]
  by_cases h : k + 1 = c.natAbs
  · rw [if_pos h]
    by_cases h0 : c < 0
    · rw [if_pos h0, if_neg (by omega), if_pos (by omega)]; omega
    · rw [if_neg h0, if_pos (by omega), if_neg (by omega), if_pos (by omega)]; omega
  · rw [if_neg h, if_neg (by omega), if_neg (by omega)]; omega
theorem sumsE_snoc {n : Nat} (xs : List Int) {c : Int} (hc : c ≠ 0) (_hn : c.natAbs ≤ n) : sumsE n (xs ++ [c]) = (sumsE n xs).set (c.natAbs - 1) (sumAt xs (c.natAbs - 1) + sgnI c) := by
  apply List.ext_getElem (by simp [sumsE])
  intro i h1 h2
  rw [List.getElem_set]
  simp only [sumsE, List.getElem_map, List.getElem_range]
  rw [sumAt_snoc xs hc]
  by_cases e : c.natAbs - 1 = i
  · subst e
    rw [if_pos (by omega), if_pos rfl]
  · rw [if_neg (by omega), if_neg e]
theorem sumAt_bd (xs : List Int) (k : Nat) : -(xs.length : Int) ≤ sumAt xs k ∧ sumAt xs k ≤ xs.length := by
  unfold sumAt
  have h1 := List.count_le_length (a := (k : Int) + 1) (l := xs)
  have h2 := List.count_le_length (a := -((k : Int) + 1)) (l := xs)
  omega
theorem take_snoc (xs : List Int) {j : Nat} (h : j < xs.length) : xs.take (j + 1) = xs.take j ++ [xs.getD j 0] := by
  rw [List.take_succ_eq_append_getElem h, List.getD_eq_getElem?_getD, List.getElem?_eq_getElem h]; rfl
def SumsPost (n : Nat) (xs : List Int) (w : World) (e : Ending) (w' : World) : Prop := ∃ g, e = .returned (.tuple #[.slice (some ⟨g, 0, none⟩) n n, .int .i64 0]) ∧ XsAt w' g (sumsE n xs) ∧ w.heap.size ≤ g ∧ Below w.heap.size w w'
set_option maxRecDepth 100000 in
set_option maxHeartbeats 2000000 in
theorem sums44_ok (w : World) (v : Value) (xs : List Int) (n : Nat) (h : IntsAt w v xs) (hn : 1 ≤ n) (hn2 : n ≤ 16) (hk : WordOk n xs) : Calls Tryz.prog 18 #[v, .int .i64 (n : Int)] w (SumsPost n xs w) := by
  have HCK := Lib.hid (check61_ok w v xs n h hn hn2 hk)
  obtain ⟨A, c, rfl, h1, h2, h3⟩ := h.open_
  have HC := Lib.hid h3
  have HK : Hid (∀ k, k < xs.length → xs.getD k 0 ≠ 0 ∧ -(n : Int) ≤ xs.getD k 0 ∧ xs.getD k 0 ≤ n) := Lib.hid fun k hk' => hk.2 _ (by rw [List.getD_eq_getElem?_getD, List.getElem?_eq_getElem hk']; exact List.getElem_mem hk')
  have hl := hk.1
  have hli : (xs.length : Int) ≤ 4000 := by omega
  have hni : (1 : Int) ≤ (n : Int) := by omega
  have hni2 : (n : Int) ≤ 16 := by omega
  obtain ⟨L, hL⟩ : ∃ L, L = xs.length := ⟨_, rfl⟩
  rw [← hL] at hl hli h1 HCK HC HK ⊢
  have HL := Lib.hid hL
  have HSZ := Lib.hid fun c => size62_any (x := c)
  have HCMP := Lib.hid fun c => compare63_zero (x := c)
  clear h h3 hk hL
  go_enter Tryz.func18, Tryz.ntmps18
  have HMK : Hid (∀ q, ∃ w1, (Instr.makeSlice 25 (.int .i64 (n : Int)) (.int .i64 (n : Int))).run Tryz.prog (w.drewN q) = .ok (.slice (some ⟨w.heap.size, 0, none⟩) n n) w1 ∧ Hid (XsAt w1 w.heap.size (sumsE n (xs.take 0)) ∧ Below w.heap.size w w1)) := Lib.hid fun q => by
    obtain ⟨w1, hm1, hx1, hb1, -⟩ := make25_any (w.drewN q) n (by omega)
    exact ⟨w1, hm1, Lib.hid ⟨by rw [List.take_zero, sumsE_nil]; exact hx1, (below_drewN (Below.refl _ _) q).trans hb1⟩⟩
  go_wp2_with (first
    | (go_at_call 41; (refine HCK.out.mono ?_); rintro e w1 ⟨rfl, q1, rfl⟩; obtain ⟨w2, hm2, HX2⟩ := HMK.out q1; have HM2 := Lib.hid hm2; clear hm2)
    | ((with_reducible refine wpList_sel 17 ?_); refine wpList_val rfl (r_make 25 (.tmp 16) (.tmp 16) rfl rfl rfl HM2.out) ?_))
  generalize hg : w.heap.size = g at *
  go_loopw [20] (fun z wr => ∃ k : Nat, k ≤ L ∧ z = .int .i64 k ∧ Hid (XsAt wr g (sumsE n (xs.take k)) ∧ Below g w wr)) (fun z _ => L - (intOf z).toNat)
  case atStart => exact ⟨0, by omega, rfl, HX2⟩
  case round =>
    obtain ⟨k, hk, rfl, HQ⟩ := hrel
    have hk0 : (0 : Int) ≤ (k : Int) := Int.natCast_nonneg _
    by_cases hkl : k < L
    · have hkl' : (k : Int) < (L : Int) := by omega
      obtain ⟨b, o, rfl, hcc⟩ := HC.out (by omega)
      have hx := hcc k hkl
      obtain ⟨e1, e2, e3⟩ := HK.out k hkl
      have hx' := (HQ.out.2.cell (p := ⟨b, o + k, none⟩) (by rw [← hg]; exact World.block_lt_of_cell? w _ hx)).trans hx
      have hsn := sumsE_snoc (n := n) (xs.take k) (c := xs.getD k 0) e1 (by omega)
      rw [← take_snoc xs (by rw [← HL.out]; exact hkl)] at hsn
      have hbd := sumAt_bd (xs.take k) ((xs.getD k 0).natAbs - 1)
      have hlt : (xs.take k).length ≤ 4000 := by rw [List.length_take]; omega
      obtain ⟨a, ha⟩ : ∃ a, a = (xs.getD k 0).natAbs - 1 := ⟨_, rfl⟩
      have haz : (xs.getD k 0).natAbs = a + 1 := by omega
      rw [← ha] at hsn hbd
      have han : a < n := by omega
      have hcell := HQ.out.1.cell (k := a) (by rw [sumsE_length]; exact han)
      rw [sumsE_getD _ han] at hcell
      have hfz := HQ.out.1.frozen a
      have hset := HQ.out.1.set (k := a) (by rw [sumsE_length]; exact han) (sumAt (xs.take k) a + sgnI (xs.getD k 0))
      rw [← hsn] at hset
      have HSET := Lib.hid (And.intro hset (HQ.out.2.setCell (p := ⟨g, a, none⟩) (Nat.le_refl _) (.int .i64 (sumAt (xs.take k) a + sgnI (xs.getD k 0)))))
      have H62 : Hid (∀ W, Calls Tryz.prog 42 #[.int .i64 (xs.getD k 0)] W fun e w' => e = .returned (.int .u64 ((a : Int) + 1)) ∧ W = w') := Lib.hid fun W => by
        have h := HSZ.out (xs.getD k 0) W (by omega)
        rw [haz] at h
        exact h
      have H63 : Hid (∀ W, Calls Tryz.prog 43 #[.int .i64 (xs.getD k 0), .int .i64 0] W fun e w' => e = .returned (.int .i64 (sgnI (xs.getD k 0))) ∧ W = w') := Lib.hid fun W => HCMP.out (xs.getD k 0) W
      have hsb : -1 ≤ sgnI (xs.getD k 0) ∧ sgnI (xs.getD k 0) ≤ 1 := by unfold sgnI; split <;> (try split) <;> omega
      have hwa : IntKind.u64.wrap ((a : Int) + 1 - 1) = (a : Int) := by unfold IntKind.wrap; simp [IntKind.signed, IntKind.bits]; omega
      have hwa2 : IntKind.u64.wrap (a : Int) = (a : Int) := by unfold IntKind.wrap; simp [IntKind.signed, IntKind.bits]; omega
      have ha0 : (0 : Int) ≤ (a : Int) := Int.natCast_nonneg _
      have hai : (a : Int) < (n : Int) := by omega
      clear hset hsn hx hcc haz ha e1 e2 e3 HK HSZ HCMP
      generalize sgnI (xs.getD k 0) = sg at *
      generalize sumAt (xs.take k) a = sm at *
      generalize xs.getD k 0 = z at *
      have hws : IntKind.i64.wrap (sm + sg) = sm + sg := IntWalk.i64_in _ (by omega)
      have hws2 : wrap64 (sm + sg) = sm + sg := by rw [wr_wrap64, wr_in (by omega)]
      clear hbd hsb hlt
      go_wp2_with fail
      go_region_law (first
        | (go_simp; go_at_call 42; (refine (H62.out _).mono ?_); rintro e w9 ⟨rfl, rfl⟩)
        | (go_simp; go_at_call 43; (refine (H63.out _).mono ?_); rintro e w9 ⟨rfl, rfl⟩))
      all_goals
        go_wp2_with fail
        go_roundw
        case rel => exact ⟨k + 1, by omega, by go_num, Lib.hid (by first | exact HSET.out | exact ⟨HSET.out.1.keep rfl, below_drewN HSET.out.2 1⟩)⟩
        case measure => simp [intOf]; omega
    · obtain rfl : k = L := by omega
      have HE : Hid (XsAt wr g (sumsE n xs) ∧ Below g w wr) := Lib.hid (by have := HQ.out; rw [HL.out, List.take_length] at this; exact this)
      go_wp2_with fail
      go_ret2
      exact ⟨g, rfl, HE.out.1, by rw [hg]; exact Nat.le_refl _, by rw [hg]; exact HE.out.2⟩
end Go.Proofs
namespace Go.Proofs
open Go.RowKit Go.Shelf Go.Proofs.Sm
theorem sumsE_fits {n : Nat} {xs : List Int} (h : xs.length ≤ 4000) : Fits (sumsE n xs) := fun z hz => by
  obtain ⟨k, -, rfl⟩ := List.mem_map.1 hz
  have := sumAt_bd xs k
  omega
set_option maxRecDepth 100000 in
set_option maxHeartbeats 2000000 in
theorem abelian26_ok (w : World) (v : Value) (R : List (List Int)) (n : Nat) (h : Tab w v R) (hn : 1 ≤ n) (hn2 : n ≤ 16) (hR : R.length ≤ 100) (hk : ∀ x ∈ R, WordOk n x) {t : List Int} {free er : Int} (hE : GrE n (R.map (sumsE n)) t free er) :
    Calls Tryz.prog 5 #[.agg #[.int .i64 (n : Int), v]] w (GroupPost t free er w) := by
  obtain ⟨A, c, rfl, h1, h2, h3⟩ := LAt.open_ h
  have HC := Lib.hid h3
  have HK : Hid (∀ k, k < R.length → WordOk n (R.getD k [])) := Lib.hid fun k hk' => hk _ (by rw [List.getD_eq_getElem?_getD, List.getElem?_eq_getElem hk']; exact List.getElem_mem hk')
  have HF : Hid (∀ y ∈ R.map (sumsE n), Fits y) := Lib.hid fun y hy => by
    obtain ⟨x, hx, rfl⟩ := List.mem_map.1 hy
    exact sumsE_fits (hk x hx).1
  have HE := Lib.hid hE
  obtain ⟨L, hL⟩ : ∃ L, L = R.length := ⟨_, rfl⟩
  rw [← hL] at hR h1 HC HK ⊢
  have HL := Lib.hid hL
  have hLi : (L : Int) ≤ 100 := by omega
  have hni : (1 : Int) ≤ (n : Int) := by omega
  have hni2 : (n : Int) ≤ 16 := by omega
  have hd1 : decide ((n : Int) < 1) = false := decide_eq_false (by omega)
  have hd2 : decide ((16 : Int) < (n : Int)) = false := decide_eq_false (by omega)
  have hd3 : decide ((100 : Int) < (L : Int)) = false := decide_eq_false (by omega)
  clear h h3 hk hE hL
  go_enter Tryz.func5, Tryz.ntmps5
  go_wp2_with fail
  have hbx : (w.alloc (.cells #[.int .i64 (n : Int), .slice A L c] 24)).cell? ⟨w.heap.size, 0, none⟩ = some (.int .i64 (n : Int)) := by rw [cell_of_row _ _ _ _ _ _ (heap_alloc_new w _)]; rfl
  have hb0 : Below w.heap.size w (w.alloc (.cells #[.int .i64 (n : Int), .slice A L c] 24)) := (Below.refl _ _).alloc (Nat.le_refl _) _
  have HBX := Lib.hid hbx
  have HB0 := Lib.hid hb0
  clear hbx hb0
  generalize hb : w.heap.size = b at *
  generalize w.alloc (.cells #[.int .i64 (n : Int), .slice A L c] 24) = w0 at *
  go_loopw [5, 25] (fun zv z wr => ∃ (k : Nat) (A' : Option Addr) (c' : Nat), k ≤ L ∧ z = .int .i64 k ∧ zv = .slice A' k c' ∧ Hid ((∃ bl cs, MatM w0.heap.size wr (.slice A' k c') bl cs ((R.take k).map (sumsE n))) ∧ Below w0.heap.size w0 wr)) (fun _ z _ => L - (intOf z).toNat)
  case atStart => exact ⟨0, none, 0, by omega, rfl, rfl, Lib.hid ⟨⟨_, _, MatM.nil _ _⟩, Below.refl _ _⟩⟩
  case round =>
    obtain ⟨k, A', c', hk, rfl, rfl, HQ⟩ := hrel
    have hk0 : (0 : Int) ≤ (k : Int) := Int.natCast_nonneg _
    have hbx := (HQ.out.2.cell (p := ⟨b, 0, none⟩) (World.block_lt_of_cell? w0 _ HBX.out)).trans HBX.out
    have hbw : Below b w wr := HB0.out.trans (HQ.out.2.mono (by rw [← hb]; rw [← hb] at HB0; exact HB0.out.size))
    by_cases hkl : k < L
    · have hkl' : (k : Int) < (L : Int) := by omega
      obtain ⟨bo, oo, rfl, hcells⟩ := HC.out (by omega)
      obtain ⟨u, hu, hI⟩ := hcells k hkl
      obtain ⟨A1, c1, rfl, -, -, -⟩ := id hI.open_
      have hu' := (hbw.cell (p := ⟨bo, oo + k, none⟩) (by rw [← hb]; exact World.block_lt_of_cell? w _ hu)).trans hu
      have HS := Lib.hid (sums44_ok wr _ _ n (kept_ints w wr _ _ (fun p hp => hbw.block p (by rw [← hb]; exact hp)) hI) hn hn2 (HK.out k hkl))
      obtain ⟨⟨bl, cs, hM⟩, hB⟩ := HQ.out
      have hlt : (R.take k).length = k := by rw [List.length_take]; have := HL.out; omega
      have hts : (R.take (k + 1)).map (sumsE n) = (R.take k).map (sumsE n) ++ [sumsE n (R.getD k [])] := by rw [← take_getD R (by rw [← HL.out]; exact hkl), List.map_append]; rfl
      have HPUSH : Hid (∀ W g, Below wr.heap.size wr W → XsAt W g (sumsE n (R.getD k [])) → wr.heap.size ≤ g → ∃ A2 c2 w2, (Builtin.append_ #[40, 40] 40 #[.slice A' k c', .slice (some ⟨W.heap.size, 0, none⟩) 1 1]).run Tryz.prog (W.alloc (.cells #[.slice (some ⟨g, 0, none⟩) n n] 25)) = .ok (.slice A2 (k + 1) c2) w2 ∧ Hid ((∃ bl cs, MatM w0.heap.size w2 (.slice A2 (k + 1) c2) bl cs ((R.take (k + 1)).map (sumsE n))) ∧ Below w0.heap.size w0 w2)) := Lib.hid fun W g hW hX hg => by
        have hMk := hM.keep hW
        obtain ⟨A2, c2, w2, p1, ⟨bl2, cs2, p2⟩, p3⟩ := hMk.push (g := g) (c := n) (Nat.le_trans hB.size hW.size) hX (Nat.le_trans hB.size hg) (by rw [sumsE_length]; exact Nat.le_refl _) (by omega) (fun i hi e => by have := hM.lt.1 i hi; omega) (by rw [List.length_map, hlt]; omega)
        rw [List.length_map, hlt, sumsE_length] at p1
        rw [List.length_map, hlt, ← hts] at p2
        exact ⟨A2, c2, w2, p1, Lib.hid ⟨⟨bl2, cs2, p2⟩, (hB.trans (hW.mono hB.size)).grown p3 (Nat.le_trans hB.size hW.size) fun r hr => (owns_block hMk.out r hr).1⟩⟩
      clear hcells hu hI hM hB hlt hts hbw
      generalize hrk : (R.getD k []).length = rl at *
      go_wp2_with (first
        | (go_at_call 18; (refine HS.out.mono ?_); rintro e w5 ⟨g, rfl, hX, hg, hb5⟩; obtain ⟨A2, c2, w6, p1, HN⟩ := HPUSH.out w5 g hb5 hX hg; have HP1 := Lib.hid p1; clear p1 hX hg hb5)
        | ((with_reducible refine wpList_sel 42 ?_); refine wpList_val rfl (r_app (.tmp 39) (.tmp 41) 40 rfl rfl rfl HP1.out) ?_))
      go_roundw
      case rel => exact ⟨k + 1, A2, c2, by omega, by go_num, rfl, HN⟩
      case measure => simp [intOf]; omega
    · obtain rfl : k = L := by omega
      obtain ⟨⟨bl, cs, hM⟩, hB⟩ := HQ.out
      have htk : R.take k = R := by rw [HL.out, List.take_length]
      rw [htk] at hM
      have hl : (R.map (sumsE n)).length = k := by rw [List.length_map, HL.out]
      have htab : Tab wr (.slice A' k c') (R.map (sumsE n)) := hM.tab HF.out
      have HG := Lib.hid (group13_any wr n _ _ htab HE.out)
      have HB := Lib.hid hbw
      clear hM hB htk hl htab hbw
      go_wp2_with (go_at_call 14; (refine HG.out.mono ?_); rintro e w5 ⟨⟨vt, rfl, ht⟩, hb5⟩; have HT := Lib.hid ht; have HB5 := Lib.hid hb5; clear ht hb5)
      go_ret3
      have hz := HB.out.size
      rw [hb] at hz
      exact ⟨⟨_, rfl, HT.out⟩, by rw [hb]; exact HB.out.trans (HB5.out.mono hz)⟩
end Go.Proofs
