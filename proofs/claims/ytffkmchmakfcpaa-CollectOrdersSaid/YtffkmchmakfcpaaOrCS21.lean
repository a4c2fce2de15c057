/- The contract of (*rules).power; Inv and Period of a live group; Operations on numbers, as run equations; Pow of a live group; The contracts of cayleyref18.Same and of the law's equal; Plain: the list with a rank. -/
import Derived.Test.YtffkmchmakfcpaaOrCS20
import Derived.Test.YtffkmchmakfcpaaOrCS16
namespace Go.Proofs
open Go.RowKit Go.Proofs.Pc
structure PwRel (P : PcD) (w : World) (R : V) (m : Nat) (o X : V) (wr : World) : Prop where
  below : Below w.heap.size w wr
  bx : wr.heap[w.heap.size]? = some (.cells (vec X).toArray 87 (0, 0))
  bz : wr.heap[w.heap.size + 1]? = some (.cells (vec []).toArray 87 (0, 0))
  bo : wr.heap[w.heap.size + 2]? = some (.cells (vec o).toArray 87 (0, 0))
  no : NV P o
  nx : NV P X
  eq : mulP P o (npow P X m) = R
theorem PwRel.odd {P : PcD} (hv : Valid P) (hc : consB P = true) {R o X : V} {m : Nat} (h : mulP P o (npow P X m) = R) (no : NV P o) (nx : NV P X) (hm : m % 2 = 1) : mulP P (mulP P o X) (npow P (mulP P X X) (m / 2)) = R := by
  rw [npow_sq hv hc nx, ← mul_assoc hv hc no nx (npow_NV hv _), ← h]
  congr 1
  have : m = 1 + 2 * (m / 2) := by omega
  conv => rhs; rw [this, npow_add hv hc nx, npow_one hv nx]
theorem PwRel.even {P : PcD} (hv : Valid P) (hc : consB P = true) {R o X : V} {m : Nat} (h : mulP P o (npow P X m) = R) (nx : NV P X) (hm : m % 2 = 0) : mulP P o (npow P (mulP P X X) (m / 2)) = R := by
  rw [npow_sq hv hc nx, show 2 * (m / 2) = m by omega, h]
set_option maxRecDepth 100000 in
set_option maxHeartbeats 1000000 in
theorem power_any {P : PcD} (hv : Valid P) (hc : consB P = true) (w : World) (br : Nat) (x : List Int) (n : Nat) (hn : n ≤ 1000000) (hr : RulesAt w br P) (hx : NV P x) :
    Calls Try.prog 78 #[.pointer (some ⟨br, 0, none⟩), .agg (vec x).toArray, .int .i64 n] w fun e w' => e = .returned (.agg (vec (npow P x n)).toArray) ∧ Below w.heap.size w w' := by
  have hst := store_vec_at
  have hb2 := allocs_below [.cells (vec x).toArray 87, .cells (vec []).toArray 87, .cells (vec []).toArray 87] w _ (Nat.le_refl _)
  have hg2 := allocs_get [.cells (vec x).toArray 87, .cells (vec []).toArray 87, .cells (vec []).toArray 87] w
  have hz : NV P (zV P) := NV_z hv
  have HW : Hid (PwRel P w (npow P x n) n (zV P) x (((w.alloc (.cells (vec x).toArray 87)).alloc (.cells #[.int .i64 0, .int .i64 0, .int .i64 0, .int .i64 0, .int .i64 0, .int .i64 0, .int .i64 0, .int .i64 0, .int .i64 0, .int .i64 0, .int .i64 0, .int .i64 0] 87)).alloc (.cells #[.int .i64 0, .int .i64 0, .int .i64 0, .int .i64 0, .int .i64 0, .int .i64 0, .int .i64 0, .int .i64 0, .int .i64 0, .int .i64 0, .int .i64 0, .int .i64 0] 87))) := Lib.hid ⟨hb2, hg2 0 _ rfl, hg2 1 _ rfl, by rw [vec_zV]; exact hg2 2 _ rfl, hz, hx, zero_mul hv (npow_NV hv n)⟩
  have HR := Lib.hid hr
  clear hr hx hb2 hg2 hz
  go_enter Try.func78, Try.ntmps78
  go_wp2_with fail
  generalize ((w.alloc (.cells (vec x).toArray 87)).alloc (.cells #[.int .i64 0, .int .i64 0, .int .i64 0, .int .i64 0, .int .i64 0, .int .i64 0, .int .i64 0, .int .i64 0, .int .i64 0, .int .i64 0, .int .i64 0, .int .i64 0] 87)).alloc (.cells #[.int .i64 0, .int .i64 0, .int .i64 0, .int .i64 0, .int .i64 0, .int .i64 0, .int .i64 0, .int .i64 0, .int .i64 0, .int .i64 0, .int .i64 0, .int .i64 0] 87) = W at *
  generalize hRq : npow P x n = R at *
  have HRQ := Lib.hid hRq
  clear hRq
  go_loopw [2] (fun s wr => ∃ m : Nat, m ≤ 1000000 ∧ s = .int .i64 m ∧ ∃ o X, PwRel P w R m o X wr) (fun s _ => (intOf s).toNat)
  case atStart => exact ⟨n, hn, rfl, _, _, HW.out⟩
  case round =>
    obtain ⟨m, hm, rfl, o, X, hP⟩ := hrel
    have HP := Lib.hid hP
    have hm0 : (0 : Int) ≤ (m : Int) := Int.natCast_nonneg _
    by_cases hpos : 0 < m
    · have hal : Below wr.heap.size wr (wr.alloc (.cells (vec X ++ vec X).toArray 87)) := (Below.refl _ _).alloc (Nat.le_refl _) _
      have hrr := (KC.of_below (hP.below.trans (hal.mono hP.below.size))).rules HR.out
      have HRR := Lib.hid hrr
      have hsz : w.heap.size + 2 < wr.heap.size := (Array.getElem?_eq_some_iff.1 hP.bo).1
      have hrb := (KC.of_below hP.below).rules HR.out
      have HRB := Lib.hid hrb
      clear hP hrr hrb
      rcases Nat.mod_two_eq_zero_or_one m with h2 | h2
      · have d1 : ((m : Int) % 2 == 1) = false := beq_eq_false_iff_ne.2 (by omega)
        have H2 := Lib.hid h2
        clear h2
        go_wp2_with (first
          | ((with_reducible refine wpList_sel 22 ?_); refine wpList_load_mid rfl 87 (.tmp 4) rfl w.heap.size 0 rfl (vec X) _ (range_of_heap HP.out.bx) Try.underlying87 rfl (by rw [length_vec]; exact info82) ?_)
          | ((with_reducible refine wpList_sel 23 ?_); refine wpList_load_mid rfl 87 (.tmp 4) rfl w.heap.size 0 rfl (vec X) _ (range_of_heap HP.out.bx) Try.underlying87 rfl (by rw [length_vec]; exact info82) ?_)
          | ((with_reducible refine wpList_sel 24 ?_); refine wpList_bslice2 rfl (.tmp 22) (.tmp 23) rfl X X rfl rfl ?_)
          | (go_at_call 73; (refine (mul_R1 hv HRR.out (vecs2 wr X X) HP.out.nx HP.out.nx).mono ?_); rintro e w3 ⟨v, rfl, rfl, hb3⟩
             have hb3' : Below wr.heap.size wr w3 := hal.trans (hb3.mono hal.size)
             have H3X := Lib.hid ((hb3'.block _ (by omega)).trans HP.out.bx)
             have H3B := Lib.hid hb3'
             clear hb3 hb3')
          | (refine wpList_store_row rfl 87 (.tmp 4) (.tmp 25) rfl w.heap.size 87 _ (vec (mulP P X X)).toArray rfl rfl H3X.out (by rw [size_vec]; exact info82) rfl (oneCell_vec _) ?_))
        have hP2 := HP.out
        have hb4 := below_setRow (hP2.below.trans (H3B.out.mono hP2.below.size)) (Nat.le_refl w.heap.size) (vec (mulP P X X)).toArray
        have hq : PwRel P w R (m / 2) o (mulP P X X) (w3.setRow w.heap.size (vec (mulP P X X)).toArray) :=
          ⟨hb4, setRow_heap w3 w.heap.size _ _ 87 (0, 0) H3X.out, (setRow_other w3 w.heap.size _ _ (by omega)).trans ((H3B.out.block _ (by omega)).trans hP2.bz), (setRow_other w3 w.heap.size _ _ (by omega)).trans ((H3B.out.block _ (by omega)).trans hP2.bo), hP2.no, mulP_NV hv hP2.nx, PwRel.even hv hc hP2.eq hP2.nx H2.out⟩
        go_roundw
        case rel => exact ⟨m / 2, by omega, by rw [Int.natCast_ediv]; rfl, o, _, hq⟩
        case measure => simp [intOf]; omega
      · have d1 : ((m : Int) % 2 == 1) = true := beq_iff_eq.2 (by omega)
        have hal0 : Below wr.heap.size wr (wr.alloc (.cells (vec o ++ vec X).toArray 87)) := (Below.refl _ _).alloc (Nat.le_refl _) _
        have hrr0 := (KC.of_below hal0).rules HRB.out
        have HRR := Lib.hid hrr0
        have H2 := Lib.hid h2
        have tok1 : True := trivial
        clear h2 hrr0
        go_wp2_with (first
          | ((with_reducible refine wpList_sel 17 ?_); refine wpList_load_mid rfl 87 (.tmp 7) rfl (w.heap.size + 2) 0 rfl (vec o) _ (range_of_heap HP.out.bo) Try.underlying87 rfl (by rw [length_vec]; exact info82) ?_)
          | ((with_reducible refine wpList_sel 18 ?_); refine wpList_load_mid rfl 87 (.tmp 4) rfl w.heap.size 0 rfl (vec X) _ (range_of_heap HP.out.bx) Try.underlying87 rfl (by rw [length_vec]; exact info82) ?_)
          | ((with_reducible refine wpList_sel 19 ?_); refine wpList_bslice2 rfl (.tmp 17) (.tmp 18) rfl o X rfl rfl ?_)
          | (go_at_call 73; have _t := tok1; (refine (mul_R1 hv HRR.out (vecs2 wr o X) HP.out.no HP.out.nx).mono ?_); rintro e w3 ⟨v, rfl, rfl, hb3⟩
             have hb3' : Below wr.heap.size wr w3 := hal0.trans (hb3.mono hal0.size)
             have H3X := Lib.hid ((hb3'.block _ (by omega)).trans HP.out.bx)
             have H3O := Lib.hid ((hb3'.block _ (by omega)).trans HP.out.bo)
             have H3Z := Lib.hid ((hb3'.block _ (by omega)).trans HP.out.bz)
             have H3B := Lib.hid (HP.out.below.trans (hb3'.mono HP.out.below.size))
             have hs3 : w.heap.size + 2 < w3.heap.size := (Array.getElem?_eq_some_iff.1 H3O.out).1
             have h4s : (w3.setRow (w.heap.size + 2) (vec (mulP P o X)).toArray).heap.size = w3.heap.size := by rw [World.setRow]; simp
             have H4S := Lib.hid h4s
             have H4X := Lib.hid ((setRow_other w3 (w.heap.size + 2) _ (vec (mulP P o X)).toArray (by omega)).trans H3X.out)
             have H4Z := Lib.hid ((setRow_other w3 (w.heap.size + 2) _ (vec (mulP P o X)).toArray (by omega)).trans H3Z.out)
             have H4O := Lib.hid (setRow_heap w3 (w.heap.size + 2) _ (vec (mulP P o X)).toArray 87 (0, 0) H3O.out)
             have H4B := Lib.hid (below_setRow H3B.out (show w.heap.size ≤ w.heap.size + 2 by omega) (vec (mulP P o X)).toArray)
             have hal4 : Below w.heap.size w ((w3.setRow (w.heap.size + 2) (vec (mulP P o X)).toArray).alloc (.cells (vec X ++ vec X).toArray 87)) := H4B.out.alloc H4B.out.size _
             have H4R := Lib.hid ((KC.of_below hal4).rules HR.out)
             clear hb3 hb3' tok1 _t h4s hal4)
          | (refine wpList_store_row rfl 87 (.tmp 7) (.tmp 20) rfl (w.heap.size + 2) 87 _ (vec (mulP P o X)).toArray rfl rfl H3O.out (by rw [size_vec]; exact info82) rfl (oneCell_vec _) ?_)
          | ((with_reducible refine wpList_sel 22 ?_); refine wpList_load_mid rfl 87 (.tmp 4) rfl w.heap.size 0 rfl (vec X) _ (range_of_heap H4X.out) Try.underlying87 rfl (by rw [length_vec]; exact info82) ?_)
          | ((with_reducible refine wpList_sel 23 ?_); refine wpList_load_mid rfl 87 (.tmp 4) rfl w.heap.size 0 rfl (vec X) _ (range_of_heap H4X.out) Try.underlying87 rfl (by rw [length_vec]; exact info82) ?_)
          | ((with_reducible refine wpList_sel 24 ?_); refine wpList_bslice2 rfl (.tmp 22) (.tmp 23) rfl X X rfl rfl ?_)
          | (go_at_call 73; generalize hW4 : w3.setRow (w.heap.size + 2) (vec (mulP P o X)).toArray = W4 at *
             rw [← H4S.out]
             (refine (mul_R1 hv H4R.out (vecs2 W4 X X) HP.out.nx HP.out.nx).mono ?_); rintro e w5 ⟨v, rfl, rfl, hb5⟩
             have hal5 : Below W4.heap.size W4 (W4.alloc (.cells (vec X ++ vec X).toArray 87)) := (Below.refl _ _).alloc (Nat.le_refl _) _
             have hb5' : Below W4.heap.size W4 w5 := hal5.trans (hb5.mono hal5.size)
             have hs4 : w.heap.size + 2 < W4.heap.size := by rw [H4S.out]; exact hs3
             have H5X := Lib.hid ((hb5'.block _ (by omega)).trans H4X.out)
             have H5O := Lib.hid ((hb5'.block _ (by omega)).trans H4O.out)
             have H5Z := Lib.hid ((hb5'.block _ (by omega)).trans H4Z.out)
             have H5B := Lib.hid (H4B.out.trans (hb5'.mono H4B.out.size))
             clear hb5 hb5' hW4 hal5)
          | (refine wpList_store_row rfl 87 (.tmp 4) (.tmp 25) rfl w.heap.size 87 _ (vec (mulP P X X)).toArray rfl rfl H5X.out (by rw [size_vec]; exact info82) rfl (oneCell_vec _) ?_))
        have hP2 := HP.out
        have hq : PwRel P w R (m / 2) (mulP P o X) (mulP P X X) (w5.setRow w.heap.size (vec (mulP P X X)).toArray) :=
          ⟨below_setRow H5B.out (Nat.le_refl w.heap.size) _, setRow_heap w5 w.heap.size _ _ 87 (0, 0) H5X.out, (setRow_other w5 w.heap.size _ _ (by omega)).trans H5Z.out, (setRow_other w5 w.heap.size _ _ (by omega)).trans H5O.out, mulP_NV hv hP2.no, mulP_NV hv hP2.nx, PwRel.odd hv hc hP2.eq hP2.no hP2.nx H2.out⟩
        go_roundw
        case rel => exact ⟨m / 2, by omega, by rw [Int.natCast_ediv]; rfl, _, _, hq⟩
        case measure => simp [intOf]; omega
    · obtain rfl : m = 0 := by omega
      have he := hP.eq
      have hrow := setRow_heap wr (w.heap.size + 1) _ (vec o).toArray 87 (0, 0) hP.bz
      have HRW := Lib.hid hrow
      have HE : Hid (o = R) := Lib.hid (by rw [← he]; exact (mul_zero o).symm)
      clear hP he hrow
      go_wp2_with (first
        | (refine wpList_load_mid rfl 87 (.tmp 7) rfl (w.heap.size + 2) 0 rfl (vec o) _ (range_of_heap HP.out.bo) Try.underlying87 rfl (by rw [length_vec]; exact info82) ?_)
        | (refine wpList_store_row rfl 87 (.tmp 6) (.tmp 26) rfl (w.heap.size + 1) 87 _ (vec o).toArray rfl rfl HP.out.bz (by rw [size_vec]; exact info82) rfl (oneCell_vec _) ?_))
      exact bodyPost_ret (results_cell_row (P := Try.prog) rfl _ _ (w.heap.size + 1) 87 (vec o).toArray (0, 0) _ rfl HRW.out Try.underlying87 rfl (by rw [size_vec]; exact info82)) rfl ⟨by rw [HE.out, HRQ.out], below_setRow HP.out.below (by omega) _⟩
end Go.Proofs
namespace Go.Proofs
open Go.RowKit Go.Proofs.Pc
attribute [local simp, local go_sem] wide_fn wide_depth
inductive SW2 where
  | s (x : SW)
  | per (x : List Int)
  | any
def SW2.holds (P : PcD) : SW2 → Value → World → Prop
  | SW2.s x, v, w => x.holds v w
  | SW2.per x, v, _ => ∃ n : Nat, IsPer P x n ∧ (n : Int) ≤ 50000 ∧ v = .int .i64 n
  | SW2.any, _, _ => True
theorem SW2.keep {P : PcD} {s : SW2} {v : Value} {w w' : World} (h : Below w.heap.size w w') : s.holds P v w → s.holds P v w' := by
  cases s with
  | s x => exact SW.keep h
  | per x => exact id
  | any => exact id
theorem call73 (args : Array Value) (w : World) : (callFunc 75 args).run Try.prog w = .ok (.enter 75 args) w := enters_of Try.func75 (by kernel_rfl) rfl args w
theorem call75 (args : Array Value) (w : World) : (callFunc 77 args).run Try.prog w = .ok (.enter 77 args) w := enters_of Try.func77 (by kernel_rfl) rfl args w
theorem call76 (args : Array Value) (w : World) : (callFunc 78 args).run Try.prog w = .ok (.enter 78 args) w := enters_of Try.func78 (by kernel_rfl) rfl args w
theorem inverse_R {P : PcD} (hv : Valid P) {w : World} {br : Nat} {x : List Int} (hr : RulesAt w br P) (hx : NV P x) :
    Calls Try.prog 75 #[.pointer (some ⟨br, 0, none⟩), .agg (vec x).toArray] w fun e w' => ∃ v, e = .returned v ∧ (v = .agg (vec (invP P x)).toArray ∧ Below w.heap.size w w') :=
  (inverse_any hv w br x hr hx).mono fun _e _w' ⟨he, hb⟩ => ⟨_, he, rfl, hb⟩
theorem period_R {P : PcD} (hv : Valid P) (hc : consB P = true) (hp : prod P P.n ≤ 50000) {w : World} {br : Nat} {x : List Int} (hr : RulesAt w br P) (hx : NV P x) :
    Calls Try.prog 77 #[.pointer (some ⟨br, 0, none⟩), .agg (vec x).toArray] w fun e w' => ∃ v, e = .returned v ∧ ((∃ n : Nat, IsPer P x n ∧ (n : Int) ≤ 50000 ∧ v = .int .i64 n) ∧ Below w.heap.size w w') :=
  (period_any hv hc hp w br x hr hx).mono fun _e _w' ⟨⟨n, h1, h2, he⟩, hb⟩ => ⟨_, he, ⟨n, h1, h2, rfl⟩, hb⟩
/-- a list and no error -/
def ListRet (z : List Int) (w : World) (e : Ending) (w' : World) : Prop := (∃ u, e = .returned (.tuple #[u, .int .i64 0]) ∧ IntsAt w' u z) ∧ Below w.heap.size w w'
def NumRet (P : PcD) (x : List Int) (w : World) (e : Ending) (w' : World) : Prop := (∃ n : Nat, IsPer P x n ∧ (n : Int) ≤ 50000 ∧ e = .returned (.tuple #[.int .i64 n, .int .i64 0])) ∧ Below w.heap.size w w'
set_option maxRecDepth 100000 in
set_option maxHeartbeats 400000 in
theorem inv_live_in {P : PcD} (hv : Valid P) (w : World) (bg br : Nat) (hg : Live w bg br) (hr : RulesAt w br P) (s1 : Value) (xs : List Int) (h1 : IntsAt w s1 xs) (hx : takeErr P xs = 0) :
    CallsIn Fence.wide 3 Try.prog 33 #[.pointer (some ⟨bg, 0, none⟩), s1] w (ListRet (invP P xs) w) := by
  have hnx := takeErr_NV hx
  have hnz := invP_NV hv hnx
  have HR := Lib.hid hr
  have HG := Lib.hid hg
  have HS1 := Lib.hid h1
  have hst := @store_vec_new
  have HO := Lib.hid (take_R hv hg hr h1 hx)
  clear hr hg h1
  gi_enter Try.func33, Try.ntmps33
  gi_wp2_with (with_reducible refine (callsIn_wide.2 HO.out).mono ?_; rintro e w1 ⟨v, rfl, rfl, hb1⟩)
  have hbw : Below w.heap.size w (w1.alloc (.cells (vec xs).toArray 87)) := hb1.alloc hb1.size _
  have hkc : KC w (w1.alloc (.cells (vec xs).toArray 87)) := KC.of_below hbw
  have hrx : (w1.alloc (.cells (vec xs).toArray 87)).rangeAt w1.heap.size 0 (vec xs) := range_new w1 xs
  generalize w1.alloc (.cells (vec xs).toArray 87) = W1 at *
  generalize w1.heap.size = bx at *
  have hfw : ∀ {w : World}, Below W1.heap.size W1 w → RulesAt w br P ∧ w.cell? ⟨bg, 0, none⟩ = some (.pointer (some ⟨br, 0, none⟩)) := fun h => ⟨(hkc.trans (KC.of_below h)).rules HR.out, (hkc.trans (KC.of_below h)).cell HG.out⟩
  clear hb1 hst
  refine wpIn_region_tail (by kernel_rfl) 17 11 (tailed_of (by kernel_rfl)) (fun w => Below W1.heap.size W1 w) (fun q v w => ((([SW2.s (SW.c (.pointer (some ⟨bg, 0, none⟩))), SW2.s (SW.c (.pointer (some ⟨bg, 0, none⟩))), SW2.s (SW.c (.pointer (some ⟨bg, 0, none⟩))), SW2.s (SW.c (.pointer (some ⟨br, 0, none⟩))), SW2.s (SW.c (.pointer (some ⟨bg, 0, none⟩))), SW2.s (SW.c (.pointer (some ⟨bg, 0, none⟩))), SW2.s (SW.c (.pointer (some ⟨bg, 0, none⟩))), SW2.s (SW.c (.pointer (some ⟨br, 0, none⟩))), SW2.s (SW.c (.agg (vec xs).toArray)), SW2.s (SW.c (.agg (vec (invP P xs)).toArray)), SW2.s (SW.il (invP P xs))]) : List SW2).getD q SW2.any).holds P v w) (fun w w' => Below w.heap.size w w') (fun q v w w' h => SW2.keep h) (Nat.le_of_ble_eq_true rfl) (Below.refl _ _).drew ?_ ?_
  · intro q o a w hq ho hS hsame hpre
    have hcases : q = 0 ∨ q = 1 ∨ q = 2 ∨ q = 3 ∨ q = 4 ∨ q = 5 ∨ q = 6 ∨ q = 7 ∨ q = 8 ∨ q = 9 ∨ q = 10 := by omega
    rcases hcases with rfl | rfl | rfl | rfl | rfl | rfl | rfl | rfl | rfl | rfl | rfl
    · obtain rfl := Option.some.inj ho; exact ⟨rfl, rfl, (by exact wpW_val (r_move (.tmp 0) rfl (hsame.out 0 (.inl (by decide)))) ⟨_, rfl, hS, Below.refl _ _, rfl⟩)⟩
    · obtain rfl := Option.some.inj ho; exact ⟨rfl, rfl, (by exact wpW_val (r_nil (.tmp 17) _ rfl (hpre ⟨0, .data⟩ (by simp) rfl)) ⟨_, rfl, hS, Below.refl _ _, rfl⟩)⟩
    · obtain rfl := Option.some.inj ho; exact ⟨rfl, rfl, (by exact wpW_val (r_fld (.tmp 18) _ rfl (hpre ⟨1, .data⟩ (by simp) rfl) (fld64_0 _ _)) ⟨_, rfl, hS, Below.refl _ _, rfl⟩)⟩
    · obtain rfl := Option.some.inj ho; exact ⟨rfl, rfl, (by exact wpW_val (r_load62 (.tmp 19) ⟨bg, 0, none⟩ rfl (hpre ⟨2, .data⟩ (by simp) rfl) (hfw hS).2) ⟨_, rfl, hS, Below.refl _ _, rfl⟩)⟩
    · obtain rfl := Option.some.inj ho; exact ⟨rfl, rfl, (by exact wpW_val (r_move (.tmp 0) rfl (hsame.out 0 (.inl (by decide)))) ⟨_, rfl, hS, Below.refl _ _, rfl⟩)⟩
    · obtain rfl := Option.some.inj ho; exact ⟨rfl, rfl, (by exact wpW_val (r_nil (.tmp 21) _ rfl (hpre ⟨4, .data⟩ (by simp) rfl)) ⟨_, rfl, hS, Below.refl _ _, rfl⟩)⟩
    · obtain rfl := Option.some.inj ho; exact ⟨rfl, rfl, (by exact wpW_val (r_fld (.tmp 22) _ rfl (hpre ⟨5, .data⟩ (by simp) rfl) (fld64_0 _ _)) ⟨_, rfl, hS, Below.refl _ _, rfl⟩)⟩
    · obtain rfl := Option.some.inj ho; exact ⟨rfl, rfl, (by exact wpW_val (r_load62 (.tmp 23) ⟨bg, 0, none⟩ rfl (hpre ⟨6, .data⟩ (by simp) rfl) (hfw hS).2) ⟨_, rfl, hS, Below.refl _ _, rfl⟩)⟩
    · obtain rfl := Option.some.inj ho; exact ⟨rfl, rfl, (by exact wpW_val (r_load82 (.tmp 6) _ _ xs rfl (hsame.out 6 (.inl (by decide))) ((KC.of_below hS).range hrx)) ⟨_, rfl, hS, Below.refl _ _, rfl⟩)⟩
    · obtain rfl := Option.some.inj ho; exact ⟨rfl, rfl, (by exact wpW_call (r_call2 (.tmp 24) (.tmp 25) _ _ _ rfl (hpre ⟨7, .data⟩ (by simp) rfl) (hpre ⟨8, .data⟩ (by simp) rfl) call73) (inverse_R hv (hfw hS).1 hnx) (fun v w'' h => ⟨v, rfl, hS.trans (h.2.mono hS.size), h.2, h.1⟩))⟩
    · obtain rfl := Option.some.inj ho; exact ⟨rfl, rfl, (by exact wpW_call (r_call2 (.tmp 20) (.tmp 26) _ _ _ rfl (hpre ⟨3, .data⟩ (by simp) rfl) (hpre ⟨9, .data⟩ (by simp) rfl) call70) (list_R hv (hfw hS).1 hnz) (fun v w'' h => ⟨v, rfl, hS.trans (h.2.mono hS.size), h.2, h.1⟩))⟩
  · intro a w' hS hsame hsl
    have hu := hsl 10 (by omega)
    have hfr := hsame.frame (Nat.le_of_ble_eq_true rfl)
    refine wpOpIn_of (o := ⟨some 4, .assign (.tmp 27), 22, _, _, none⟩) rfl rfl (wpW_val (r_asg (.tmp 27) rfl rfl) (wpOpIn_of (o := ⟨some 5, .assign (.const (.int .i64 0)), 29, _, _, none⟩) rfl rfl (wpW_val (r_asg (.const (.int .i64 0)) rfl rfl) ?_)))
    have e41 : a.eval (.tmp 27) = a.tmps.getD (17 + 10) undef := rfl
    have ec : ∀ a : Act, a.eval (.const (.int .i64 0)) = .int .i64 0 := fun _ => rfl
    rw [e41, ec]
    generalize a.tmps.getD (17 + 10) undef = u at *
    have HU : IntsAt w' u (invP P xs) := hu
    clear hu hsl hsame e41 ec
    generalize (fun i => a.tmps.getD (17 + i) undef) = vs at hfr
    subst hfr
    dsimp only
    simp only [Act.put, List.take_succ_cons, List.take_zero, List.drop_succ_cons, List.drop_zero, List.map_cons, List.map_nil, List.range, List.range.loop, List.cons_append, List.nil_append, List.append_nil, List.setIfInBounds_toArray, List.set_cons_succ, List.set_cons_zero, Nat.reduceAdd]
    have hfin : ListRet (invP P xs) w (.returned (.tuple #[u, .int .i64 0])) w' := ⟨⟨u, rfl, HU⟩, hbw.trans (hS.mono hbw.size)⟩
    clear hfw hnx hnz hrx hkc hbw HO HR HG HS1 HU hS
    gi_wp2_with fail
    exact bodyPost_ret (results_tmp2 (t := 4) (u := 5) rfl _ _ _) rfl hfin
theorem inv_live {P : PcD} (hv : Valid P) (w : World) (bg br : Nat) (hg : Live w bg br) (hr : RulesAt w br P) (s1 : Value) (xs : List Int) (h1 : IntsAt w s1 xs) (hx : takeErr P xs = 0) :
    Calls Try.prog 33 #[.pointer (some ⟨bg, 0, none⟩), s1] w (ListRet (invP P xs) w) := callsIn_wide.1 (inv_live_in hv w bg br hg hr s1 xs h1 hx)
set_option maxRecDepth 100000 in
set_option maxHeartbeats 400000 in
theorem per_live_in {P : PcD} (hv : Valid P) (hc : consB P = true) (hp : prod P P.n ≤ 50000) (w : World) (bg br : Nat) (hg : Live w bg br) (hr : RulesAt w br P) (s1 : Value) (xs : List Int) (h1 : IntsAt w s1 xs) (hx : takeErr P xs = 0) :
    CallsIn Fence.wide 3 Try.prog 41 #[.pointer (some ⟨bg, 0, none⟩), s1] w (NumRet P xs w) := by
  have hnx := takeErr_NV hx
  have HR := Lib.hid hr
  have HG := Lib.hid hg
  have HS1 := Lib.hid h1
  have hst := @store_vec_new
  have HO := Lib.hid (take_R hv hg hr h1 hx)
  clear hr hg h1
  gi_enter Try.func41, Try.ntmps41
  gi_wp2_with (with_reducible refine (callsIn_wide.2 HO.out).mono ?_; rintro e w1 ⟨v, rfl, rfl, hb1⟩)
  have hbw : Below w.heap.size w (w1.alloc (.cells (vec xs).toArray 87)) := hb1.alloc hb1.size _
  have hkc : KC w (w1.alloc (.cells (vec xs).toArray 87)) := KC.of_below hbw
  have hrx : (w1.alloc (.cells (vec xs).toArray 87)).rangeAt w1.heap.size 0 (vec xs) := range_new w1 xs
  generalize w1.alloc (.cells (vec xs).toArray 87) = W1 at *
  generalize w1.heap.size = bx at *
  have hfw : ∀ {w : World}, Below W1.heap.size W1 w → RulesAt w br P ∧ w.cell? ⟨bg, 0, none⟩ = some (.pointer (some ⟨br, 0, none⟩)) := fun h => ⟨(hkc.trans (KC.of_below h)).rules HR.out, (hkc.trans (KC.of_below h)).cell HG.out⟩
  clear hb1 hst
  refine wpIn_region_tail (by kernel_rfl) 17 6 (tailed_of (by kernel_rfl)) (fun w => Below W1.heap.size W1 w) (fun q v w => ((([SW2.s (SW.c (.pointer (some ⟨bg, 0, none⟩))), SW2.s (SW.c (.pointer (some ⟨bg, 0, none⟩))), SW2.s (SW.c (.pointer (some ⟨bg, 0, none⟩))), SW2.s (SW.c (.pointer (some ⟨br, 0, none⟩))), SW2.s (SW.c (.agg (vec xs).toArray)), SW2.per xs]) : List SW2).getD q SW2.any).holds P v w) (fun w w' => Below w.heap.size w w') (fun q v w w' h => SW2.keep h) (Nat.le_of_ble_eq_true rfl) (Below.refl _ _).drew ?_ ?_
  · intro q o a w hq ho hS hsame hpre
    have hcases : q = 0 ∨ q = 1 ∨ q = 2 ∨ q = 3 ∨ q = 4 ∨ q = 5 := by omega
    rcases hcases with rfl | rfl | rfl | rfl | rfl | rfl
    · obtain rfl := Option.some.inj ho; exact ⟨rfl, rfl, (by exact wpW_val (r_move (.tmp 0) rfl (hsame.out 0 (.inl (by decide)))) ⟨_, rfl, hS, Below.refl _ _, rfl⟩)⟩
    · obtain rfl := Option.some.inj ho; exact ⟨rfl, rfl, (by exact wpW_val (r_nil (.tmp 17) _ rfl (hpre ⟨0, .data⟩ (by simp) rfl)) ⟨_, rfl, hS, Below.refl _ _, rfl⟩)⟩
    · obtain rfl := Option.some.inj ho; exact ⟨rfl, rfl, (by exact wpW_val (r_fld (.tmp 18) _ rfl (hpre ⟨1, .data⟩ (by simp) rfl) (fld64_0 _ _)) ⟨_, rfl, hS, Below.refl _ _, rfl⟩)⟩
    · obtain rfl := Option.some.inj ho; exact ⟨rfl, rfl, (by exact wpW_val (r_load62 (.tmp 19) ⟨bg, 0, none⟩ rfl (hpre ⟨2, .data⟩ (by simp) rfl) (hfw hS).2) ⟨_, rfl, hS, Below.refl _ _, rfl⟩)⟩
    · obtain rfl := Option.some.inj ho; exact ⟨rfl, rfl, (by exact wpW_val (r_load82 (.tmp 6) _ _ xs rfl (hsame.out 6 (.inl (by decide))) ((KC.of_below hS).range hrx)) ⟨_, rfl, hS, Below.refl _ _, rfl⟩)⟩
    · obtain rfl := Option.some.inj ho; exact ⟨rfl, rfl, (by exact wpW_call (r_call2 (.tmp 20) (.tmp 21) _ _ _ rfl (hpre ⟨3, .data⟩ (by simp) rfl) (hpre ⟨4, .data⟩ (by simp) rfl) call75) (period_R hv hc hp (hfw hS).1 hnx) (fun v w'' h => ⟨v, rfl, hS.trans (h.2.mono hS.size), h.2, h.1⟩))⟩
  · intro a w' hS hsame hsl
    have hu := hsl 5 (by omega)
    have hfr := hsame.frame (Nat.le_of_ble_eq_true rfl)
    refine wpOpIn_of (o := ⟨some 4, .assign (.tmp 22), 3, _, _, none⟩) rfl rfl (wpW_val (r_asg (.tmp 22) rfl rfl) (wpOpIn_of (o := ⟨some 5, .assign (.const (.int .i64 0)), 29, _, _, none⟩) rfl rfl (wpW_val (r_asg (.const (.int .i64 0)) rfl rfl) ?_)))
    have e41 : a.eval (.tmp 22) = a.tmps.getD (17 + 5) undef := rfl
    have ec : ∀ a : Act, a.eval (.const (.int .i64 0)) = .int .i64 0 := fun _ => rfl
    rw [e41, ec]
    generalize a.tmps.getD (17 + 5) undef = u at *
    have HU : ∃ n : Nat, IsPer P xs n ∧ (n : Int) ≤ 50000 ∧ u = .int .i64 n := hu
    clear hu hsl hsame e41 ec
    generalize (fun i => a.tmps.getD (17 + i) undef) = vs at hfr
    subst hfr
    dsimp only
    simp only [Act.put, List.take_succ_cons, List.take_zero, List.drop_succ_cons, List.drop_zero, List.map_cons, List.map_nil, List.range, List.range.loop, List.cons_append, List.nil_append, List.append_nil, List.setIfInBounds_toArray, List.set_cons_succ, List.set_cons_zero, Nat.reduceAdd]
    have hfin : NumRet P xs w (.returned (.tuple #[u, .int .i64 0])) w' := by obtain ⟨n, g1, g2, rfl⟩ := HU; exact ⟨⟨n, g1, g2, rfl⟩, hbw.trans (hS.mono hbw.size)⟩
    clear hfw hnx hrx hkc hbw HO HR HG HS1 HU hS
    gi_wp2_with fail
    exact bodyPost_ret (results_tmp2 (t := 4) (u := 5) rfl _ _ _) rfl hfin
theorem per_live {P : PcD} (hv : Valid P) (hc : consB P = true) (hp : prod P P.n ≤ 50000) (w : World) (bg br : Nat) (hg : Live w bg br) (hr : RulesAt w br P) (s1 : Value) (xs : List Int) (h1 : IntsAt w s1 xs) (hx : takeErr P xs = 0) :
    Calls Try.prog 41 #[.pointer (some ⟨bg, 0, none⟩), s1] w (NumRet P xs w) := callsIn_wide.1 (per_live_in hv hc hp w bg br hg hr s1 xs h1 hx)
end Go.Proofs
namespace Go.Proofs
open Go.RowKit Go.Proofs.Pc
section
variable {o : Oper} {a : Act} {w : World}
theorem r_rem (x y : Operand) (n k : Int) (ho : o.op = .binOp .rem 3 x y 3) (hx : a.eval x = .int .i64 n) (hy : a.eval y = .int .i64 k) (hk : 0 < k) (hk2 : k ≤ 1000000) :
    (execOp a.eval o).run Try.prog w = .ok (.value (.int .i64 (n.tmod k))) w := by
  have h0 : ¬ k = 0 := by omega
  have h3 : n.tmod k < k := Int.tmod_lt_of_pos _ hk
  have h4 : -k < n.tmod k := by
    have := Int.lt_tmod_of_pos n hk
    omega
  have hw1 : IntKind.i64.wrap (n.tmod k) = n.tmod k := IntWalk.i64_in _ (by omega)
  unfold execOp
  simp only [ho, hx, hy]
  simp [go_sem, h0]
theorem r_add (x y : Operand) (n k : Int) (ho : o.op = .binOp .add 3 x y 3) (hx : a.eval x = .int .i64 n) (hy : a.eval y = .int .i64 k) (h1 : -9223372036854775808 ≤ n + k) (h2 : n + k ≤ 9223372036854775807) :
    (execOp a.eval o).run Try.prog w = .ok (.value (.int .i64 (n + k))) w := by
  have hw1 : IntKind.i64.wrap (n + k) = n + k := IntWalk.i64_in _ (by omega)
  unfold execOp
  simp only [ho, hx, hy]
  simp [go_sem, hw1]
theorem r_subc (x : Operand) (n k : Int) (ho : o.op = .binOp .sub 3 x (.const (.int .i64 k)) 3) (hx : a.eval x = .int .i64 n) (h1 : -9223372036854775808 ≤ n - k) (h2 : n - k ≤ 9223372036854775807) :
    (execOp a.eval o).run Try.prog w = .ok (.value (.int .i64 (n - k))) w := by
  have hw1 : IntKind.i64.wrap (n - k) = n - k := IntWalk.i64_in _ (by omega)
  have e : a.eval (.const (.int .i64 k)) = .int .i64 k := rfl
  unfold execOp
  simp only [ho, hx, e]
  simp [go_sem, hw1]
theorem r_neg (x : Operand) (n : Int) (ho : o.op = .unOp .neg 3 x) (hx : a.eval x = .int .i64 n) (h1 : -9223372036854775808 ≤ -n) (h2 : -n ≤ 9223372036854775807) :
    (execOp a.eval o).run Try.prog w = .ok (.value (.int .i64 (-n))) w := by
  have hw1 : IntKind.i64.wrap (-n) = -n := IntWalk.i64_in _ (by omega)
  unfold execOp
  simp only [ho, hx]
  simp [go_sem, hw1]
end
end Go.Proofs
namespace Go.Proofs
open Go.RowKit Go.Proofs.Pc
attribute [local simp, local go_sem] wide_fn wide_depth
def dmPow : Nat → Nat := fun i => [20, 21, 22, 23, 24, 25].getD i 0
theorem power_R {P : PcD} (hv : Valid P) (hc : consB P = true) {w : World} {br : Nat} {x : List Int} {n : Nat} (hn : n ≤ 1000000) (hr : RulesAt w br P) (hx : NV P x) :
    Calls Try.prog 78 #[.pointer (some ⟨br, 0, none⟩), .agg (vec x).toArray, .int .i64 n] w fun e w' => ∃ v, e = .returned v ∧ (v = .agg (vec (npow P x n)).toArray ∧ Below w.heap.size w w') :=
  (power_any hv hc w br x n hn hr hx).mono fun _e _w' ⟨he, hb⟩ => ⟨_, he, rfl, hb⟩
theorem r_call3 {o : Oper} {a : Act} {w : World} {f : FuncId} (x y z : Operand) (u v t : Value) (T : Array TypeId) (ho : o.op = .call { callee := .value (.func f), args := #[x, y, z], argTypes := T }) (hx : a.eval x = u) (hy : a.eval y = v) (hz : a.eval z = t)
    (he : ∀ args w, (callFunc f args).run Try.prog w = .ok (.enter f args) w) : (execOp a.eval o).run Try.prog w = .ok (.enter f #[u, v, t]) w := by
  have hf : a.eval (.func f) = .func (.func f) #[] #[] := rfl
  unfold execOp
  simp only [ho, resolve, List.map_toArray, List.map_cons, List.map_nil, hx, hy, hz, hf]
  simp [go_sem, he]
set_option maxRecDepth 100000 in
set_option maxHeartbeats 1000000 in
theorem pow_live_in {P : PcD} (hv : Valid P) (hc : consB P = true) (hp : prod P P.n ≤ 50000) (w : World) (bg br : Nat) (hg : Live w bg br) (hr : RulesAt w br P) (s1 : Value) (xs : List Int) (n : Int) (h1 : IntsAt w s1 xs) (hx : takeErr P xs = 0) (k : Nat) (hk : IsPer P xs k) (hk5 : (k : Int) ≤ 50000) :
    CallsIn Fence.wide 3 Try.prog 35 #[.pointer (some ⟨bg, 0, none⟩), s1, .int .i64 n] w (ListRet (npow P xs (n % (k : Int)).toNat) w) := by
  have hnx := takeErr_NV hx
  have hkp := hk.pos
  have hk0 : (0 : Int) < (k : Int) := by omega
  have hk1 : (k : Int) ≤ 1000000 := by omega
  have h3 : n.tmod k < k := Int.tmod_lt_of_pos _ hk0
  have h4 : -(k : Int) < n.tmod k := by
    have := Int.lt_tmod_of_pos n hk0
    omega
  have h5 : (n.tmod k + k).tmod k = n % k := by
    rw [Int.tmod_eq_emod_of_nonneg (by omega), Int.add_emod_right, Int.tmod_eq_emod]
    split
    · simp
    · rw [Int.sub_emod]; simp
  have h6 := Int.emod_nonneg n (show (k : Int) ≠ 0 by omega)
  have h7 := Int.emod_lt_of_pos n hk0
  obtain ⟨r, hr0⟩ := Int.eq_ofNat_of_zero_le h6
  have hrk : r ≤ 1000000 := by omega
  rw [hr0, Int.toNat_natCast]
  have hr0 : (n.tmod k + k).tmod k = (r : Int) := h5.trans hr0
  have HR0 := Lib.hid hr0
  have hnz := npow_NV hv (x := xs) r
  have HR := Lib.hid hr
  have HG := Lib.hid hg
  have HS1 := Lib.hid h1
  have hst := @store_vec_new
  have HO := Lib.hid (take_R hv hg hr h1 hx)
  clear hr hg h1 h5 h6 h7 hr0
  gi_enter Try.func35, Try.ntmps35
  gi_wp2_with (with_reducible refine (callsIn_wide.2 HO.out).mono ?_; rintro e w1 ⟨v, rfl, rfl, hb1⟩)
  have hbw : Below w.heap.size w (w1.alloc (.cells (vec xs).toArray 87)) := hb1.alloc hb1.size _
  have hkc : KC w (w1.alloc (.cells (vec xs).toArray 87)) := KC.of_below hbw
  have hrx : (w1.alloc (.cells (vec xs).toArray 87)).rangeAt w1.heap.size 0 (vec xs) := range_new w1 xs
  generalize w1.alloc (.cells (vec xs).toArray 87) = W1 at *
  generalize w1.heap.size = bx at *
  have hfw : ∀ {w : World}, Below W1.heap.size W1 w → RulesAt w br P ∧ w.cell? ⟨bg, 0, none⟩ = some (.pointer (some ⟨br, 0, none⟩)) := fun h => ⟨(hkc.trans (KC.of_below h)).rules HR.out, (hkc.trans (KC.of_below h)).cell HG.out⟩
  clear hb1 hst
  refine wpIn_region_one (by kernel_rfl) dmPow 6 (tailed1_of (by kernel_rfl)) (fun w => Below W1.heap.size W1 w) (fun q v w => ((([SW2.s (SW.c (.pointer (some ⟨bg, 0, none⟩))), SW2.s (SW.c (.pointer (some ⟨bg, 0, none⟩))), SW2.s (SW.c (.pointer (some ⟨bg, 0, none⟩))), SW2.s (SW.c (.pointer (some ⟨br, 0, none⟩))), SW2.s (SW.c (.agg (vec xs).toArray)), SW2.per xs]) : List SW2).getD q SW2.any).holds P v w) (fun w w' => Below w.heap.size w w') (inj_of (by decide)) (fun q v w w' h => SW2.keep h) (lt_of (n := 44) (by decide)) (Below.refl _ _).drew ?_ ?_
  · intro q o a w hq ho hS hsame hpre
    have hcases : q = 0 ∨ q = 1 ∨ q = 2 ∨ q = 3 ∨ q = 4 ∨ q = 5 := by omega
    rcases hcases with rfl | rfl | rfl | rfl | rfl | rfl
    · obtain rfl := Option.some.inj ho; exact ⟨rfl, rfl, (by exact wpW_val (r_move (.tmp 0) rfl (hsame.out 0 (by decide))) ⟨_, rfl, hS, Below.refl _ _, rfl⟩)⟩
    · obtain rfl := Option.some.inj ho; exact ⟨rfl, rfl, (by exact wpW_val (r_nil (.tmp 20) _ rfl (hpre ⟨0, .data⟩ (by simp) rfl)) ⟨_, rfl, hS, Below.refl _ _, rfl⟩)⟩
    · obtain rfl := Option.some.inj ho; exact ⟨rfl, rfl, (by exact wpW_val (r_fld (.tmp 21) _ rfl (hpre ⟨1, .data⟩ (by simp) rfl) (fld64_0 _ _)) ⟨_, rfl, hS, Below.refl _ _, rfl⟩)⟩
    · obtain rfl := Option.some.inj ho; exact ⟨rfl, rfl, (by exact wpW_val (r_load62 (.tmp 22) ⟨bg, 0, none⟩ rfl (hpre ⟨2, .data⟩ (by simp) rfl) (hfw hS).2) ⟨_, rfl, hS, Below.refl _ _, rfl⟩)⟩
    · obtain rfl := Option.some.inj ho; exact ⟨rfl, rfl, (by exact wpW_val (r_load82 (.tmp 8) _ _ xs rfl (hsame.out 8 (by decide)) ((KC.of_below hS).range hrx)) ⟨_, rfl, hS, Below.refl _ _, rfl⟩)⟩
    · obtain rfl := Option.some.inj ho; exact ⟨rfl, rfl, (by exact wpW_call (r_call2 (.tmp 23) (.tmp 24) _ _ _ rfl (hpre ⟨3, .data⟩ (by simp) rfl) (hpre ⟨4, .data⟩ (by simp) rfl) call75) (period_R hv hc hp (hfw hS).1 hnx) (fun v w'' h => ⟨v, rfl, hS.trans (h.2.mono hS.size), h.2, h.1⟩))⟩
  intro a w2 hS hsame hsl
  obtain ⟨k', hk1', -, hu⟩ := hsl 5 (by omega)
  rw [hk1'.unique hk] at hu
  obtain ⟨vs, hvs, hfr⟩ := hsame.frameV 44 rfl
  refine wpOpIn_of (o := ⟨some 10, .assign (.tmp 25), 3, _, _, none⟩) rfl rfl (wpW_val (r_asg (.tmp 25) rfl hu) ?_)
  have hS2 := hS
  have hrx := (KC.of_below hS).range hrx
  have hfw : ∀ {w : World}, Below w2.heap.size w2 w → RulesAt w br P ∧ w.cell? ⟨bg, 0, none⟩ = some (.pointer (some ⟨br, 0, none⟩)) := fun h => hfw (hS.trans (h.mono hS.size))
  have hbw := hbw.trans (hS.mono hbw.size)
  clear hkc hsl hsame hvs hu hS hS2 hk1'
  subst hfr
  dsimp only
  simp only [Act.put, List.range, List.range.loop, List.map_cons, List.map_nil, List.any_cons, List.any_nil, dmPow, List.getD_cons_zero, List.getD_cons_succ, Nat.reduceBEq, Bool.or_false, Bool.or_true, Bool.false_eq_true, if_true, if_false, List.setIfInBounds_toArray, List.set_cons_succ, List.set_cons_zero]
  gi_wp2_with fail
  generalize w2 = W1 at *
  have hr0 := HR0.out
  refine wpIn_region_tail (by kernel_rfl) 26 18 (tailed_of (by kernel_rfl)) (fun w => Below W1.heap.size W1 w) (fun q v w => ((([SW2.s (SW.c (.pointer (some ⟨bg, 0, none⟩))), SW2.s (SW.c (.pointer (some ⟨bg, 0, none⟩))), SW2.s (SW.c (.pointer (some ⟨bg, 0, none⟩))), SW2.s (SW.c (.pointer (some ⟨br, 0, none⟩))), SW2.s (SW.c (.pointer (some ⟨bg, 0, none⟩))), SW2.s (SW.c (.pointer (some ⟨bg, 0, none⟩))), SW2.s (SW.c (.pointer (some ⟨bg, 0, none⟩))), SW2.s (SW.c (.pointer (some ⟨br, 0, none⟩))), SW2.s (SW.c (.agg (vec xs).toArray)), SW2.s (SW.c (.int .i64 n)), SW2.s (SW.c (.int .i64 (k : Int))), SW2.s (SW.c (.int .i64 (n.tmod k))), SW2.s (SW.c (.int .i64 (k : Int))), SW2.s (SW.c (.int .i64 (n.tmod k + k))), SW2.s (SW.c (.int .i64 (k : Int))), SW2.s (SW.c (.int .i64 ((r : Nat) : Int))), SW2.s (SW.c (.agg (vec (npow P xs r)).toArray)), SW2.s (SW.il (npow P xs r))]) : List SW2).getD q SW2.any).holds P v w) (fun w w' => Below w.heap.size w w') (fun q v w w' h => SW2.keep h) (Nat.le_of_ble_eq_true rfl) (Below.refl _ _).drew ?_ ?_
  · intro q o a w hq ho hS hsame hpre
    have hcases : q = 0 ∨ q = 1 ∨ q = 2 ∨ q = 3 ∨ q = 4 ∨ q = 5 ∨ q = 6 ∨ q = 7 ∨ q = 8 ∨ q = 9 ∨ q = 10 ∨ q = 11 ∨ q = 12 ∨ q = 13 ∨ q = 14 ∨ q = 15 ∨ q = 16 ∨ q = 17 := by omega
    rcases hcases with rfl | rfl | rfl | rfl | rfl | rfl | rfl | rfl | rfl | rfl | rfl | rfl | rfl | rfl | rfl | rfl | rfl | rfl
    · obtain rfl := Option.some.inj ho; exact ⟨rfl, rfl, (by exact wpW_val (r_move (.tmp 0) rfl (hsame.out 0 (.inl (by decide)))) ⟨_, rfl, hS, Below.refl _ _, rfl⟩)⟩
    · obtain rfl := Option.some.inj ho; exact ⟨rfl, rfl, (by exact wpW_val (r_nil (.tmp 26) _ rfl (hpre ⟨0, .data⟩ (by simp) rfl)) ⟨_, rfl, hS, Below.refl _ _, rfl⟩)⟩
    · obtain rfl := Option.some.inj ho; exact ⟨rfl, rfl, (by exact wpW_val (r_fld (.tmp 27) _ rfl (hpre ⟨1, .data⟩ (by simp) rfl) (fld64_0 _ _)) ⟨_, rfl, hS, Below.refl _ _, rfl⟩)⟩
    · obtain rfl := Option.some.inj ho; exact ⟨rfl, rfl, (by exact wpW_val (r_load62 (.tmp 28) ⟨bg, 0, none⟩ rfl (hpre ⟨2, .data⟩ (by simp) rfl) (hfw hS).2) ⟨_, rfl, hS, Below.refl _ _, rfl⟩)⟩
    · obtain rfl := Option.some.inj ho; exact ⟨rfl, rfl, (by exact wpW_val (r_move (.tmp 0) rfl (hsame.out 0 (.inl (by decide)))) ⟨_, rfl, hS, Below.refl _ _, rfl⟩)⟩
    · obtain rfl := Option.some.inj ho; exact ⟨rfl, rfl, (by exact wpW_val (r_nil (.tmp 30) _ rfl (hpre ⟨4, .data⟩ (by simp) rfl)) ⟨_, rfl, hS, Below.refl _ _, rfl⟩)⟩
    · obtain rfl := Option.some.inj ho; exact ⟨rfl, rfl, (by exact wpW_val (r_fld (.tmp 31) _ rfl (hpre ⟨5, .data⟩ (by simp) rfl) (fld64_0 _ _)) ⟨_, rfl, hS, Below.refl _ _, rfl⟩)⟩
    · obtain rfl := Option.some.inj ho; exact ⟨rfl, rfl, (by exact wpW_val (r_load62 (.tmp 32) ⟨bg, 0, none⟩ rfl (hpre ⟨6, .data⟩ (by simp) rfl) (hfw hS).2) ⟨_, rfl, hS, Below.refl _ _, rfl⟩)⟩
    · obtain rfl := Option.some.inj ho; exact ⟨rfl, rfl, (by exact wpW_val (r_load82 (.tmp 8) _ _ xs rfl (hsame.out 8 (.inl (by decide))) ((KC.of_below hS).range hrx)) ⟨_, rfl, hS, Below.refl _ _, rfl⟩)⟩
    · obtain rfl := Option.some.inj ho; exact ⟨rfl, rfl, (by exact wpW_val (r_move (.tmp 2) rfl (hsame.out 2 (.inl (by decide)))) ⟨_, rfl, hS, Below.refl _ _, rfl⟩)⟩
    · obtain rfl := Option.some.inj ho; exact ⟨rfl, rfl, (by exact wpW_val (r_move (.tmp 10) rfl (hsame.out 10 (.inl (by decide)))) ⟨_, rfl, hS, Below.refl _ _, rfl⟩)⟩
    · obtain rfl := Option.some.inj ho; exact ⟨rfl, rfl, (by exact wpW_val (r_rem (.tmp 35) (.tmp 36) n k rfl (hpre ⟨9, .data⟩ (by simp) rfl) (hpre ⟨10, .data⟩ (by simp) rfl) hk0 hk1) ⟨_, rfl, hS, Below.refl _ _, rfl⟩)⟩
    · obtain rfl := Option.some.inj ho; exact ⟨rfl, rfl, (by exact wpW_val (r_move (.tmp 10) rfl (hsame.out 10 (.inl (by decide)))) ⟨_, rfl, hS, Below.refl _ _, rfl⟩)⟩
    · obtain rfl := Option.some.inj ho; exact ⟨rfl, rfl, (by exact wpW_val (r_add (.tmp 37) (.tmp 38) (n.tmod k) k rfl (hpre ⟨11, .data⟩ (by simp) rfl) (hpre ⟨12, .data⟩ (by simp) rfl) (by omega) (by omega)) ⟨_, rfl, hS, Below.refl _ _, rfl⟩)⟩
    · obtain rfl := Option.some.inj ho; exact ⟨rfl, rfl, (by exact wpW_val (r_move (.tmp 10) rfl (hsame.out 10 (.inl (by decide)))) ⟨_, rfl, hS, Below.refl _ _, rfl⟩)⟩
    · obtain rfl := Option.some.inj ho; exact ⟨rfl, rfl, (by exact wpW_val (r_rem (.tmp 39) (.tmp 40) (n.tmod k + k) k rfl (hpre ⟨13, .data⟩ (by simp) rfl) (hpre ⟨14, .data⟩ (by simp) rfl) hk0 hk1) ⟨_, rfl, hS, Below.refl _ _, by show (Value.int .i64 _ : Value) = _; rw [hr0]⟩)⟩
    · obtain rfl := Option.some.inj ho; exact ⟨rfl, rfl, (by exact wpW_call (r_call3 (.tmp 33) (.tmp 34) (.tmp 41) _ _ _ _ rfl (hpre ⟨7, .data⟩ (by simp) rfl) (hpre ⟨8, .data⟩ (by simp) rfl) (hpre ⟨15, .data⟩ (by simp) rfl) call76) (power_R hv hc (by omega) (hfw hS).1 hnx) (fun v w'' h => ⟨v, rfl, hS.trans (h.2.mono hS.size), h.2, h.1⟩))⟩
    · obtain rfl := Option.some.inj ho; exact ⟨rfl, rfl, (by exact wpW_call (r_call2 (.tmp 29) (.tmp 42) _ _ _ rfl (hpre ⟨3, .data⟩ (by simp) rfl) (hpre ⟨16, .data⟩ (by simp) rfl) call70) (list_R hv (hfw hS).1 hnz) (fun v w'' h => ⟨v, rfl, hS.trans (h.2.mono hS.size), h.2, h.1⟩))⟩
  · intro a w' hS hsame hsl
    have hu := hsl 17 (by omega)
    have hfr := hsame.frame (Nat.le_of_ble_eq_true rfl)
    refine wpOpIn_of (o := ⟨some 6, .assign (.tmp 43), 22, _, _, none⟩) rfl rfl (wpW_val (r_asg (.tmp 43) rfl rfl) (wpOpIn_of (o := ⟨some 7, .assign (.const (.int .i64 0)), 29, _, _, none⟩) rfl rfl (wpW_val (r_asg (.const (.int .i64 0)) rfl rfl) ?_)))
    have e41 : a.eval (.tmp 43) = a.tmps.getD (26 + 17) undef := rfl
    have ec : ∀ a : Act, a.eval (.const (.int .i64 0)) = .int .i64 0 := fun _ => rfl
    rw [e41, ec]
    generalize a.tmps.getD (26 + 17) undef = u at *
    have HU : IntsAt w' u (npow P xs r) := hu
    clear hu hsl hsame e41 ec
    generalize (fun i => a.tmps.getD (26 + i) undef) = vs at hfr
    subst hfr
    dsimp only
    simp only [Act.put, List.take_succ_cons, List.take_zero, List.drop_succ_cons, List.drop_zero, List.map_cons, List.map_nil, List.range, List.range.loop, List.cons_append, List.nil_append, List.append_nil, List.setIfInBounds_toArray, List.set_cons_succ, List.set_cons_zero, Nat.reduceAdd]
    have hfin : ListRet (npow P xs r) w (.returned (.tuple #[u, .int .i64 0])) w' := ⟨⟨u, rfl, HU⟩, hbw.trans (hS.mono hbw.size)⟩
    clear hfw hnx hnz hrx hr0 HR0 hbw HO HR HG HS1 HU hS
    gi_wp2_with fail
    exact bodyPost_ret (results_tmp2 (t := 6) (u := 7) rfl _ _ _) rfl hfin
theorem pow_live {P : PcD} (hv : Valid P) (hc : consB P = true) (hp : prod P P.n ≤ 50000) (w : World) (bg br : Nat) (hg : Live w bg br) (hr : RulesAt w br P) (s1 : Value) (xs : List Int) (n : Int) (h1 : IntsAt w s1 xs) (hx : takeErr P xs = 0) (k : Nat) (hk : IsPer P xs k) (hk5 : (k : Int) ≤ 50000) :
    Calls Try.prog 35 #[.pointer (some ⟨bg, 0, none⟩), s1, .int .i64 n] w (ListRet (npow P xs (n % (k : Int)).toNat) w) := callsIn_wide.1 (pow_live_in hv hc hp w bg br hg hr s1 xs n h1 hx k hk hk5)
end Go.Proofs
namespace Go.Proofs
open Go.RowKit Go.Proofs.Pc
theorem getD_ext {α : Type} {d : α} {A B : List α} (hl : A.length = B.length) (h : ∀ k, k < A.length → A.getD k d = B.getD k d) : A = B := by
  apply List.ext_getElem hl
  intro i h1 h2
  have := h i h1
  simpa [List.getD_eq_getElem?_getD, h1, h2] using this
theorem getD_ne {α : Type} {d : α} {A B : List α} {k : Nat} (h : A.getD k d ≠ B.getD k d) : A ≠ B := fun e => h (by rw [e])
theorem ex_drewN {w : World} {n m : Nat} : ∃ q, (w.drewN n).drewN m = w.drewN q := ⟨_, World.drewN_drewN _ _ _⟩
theorem all_succ {p : Nat → Prop} {k : Nat} (h : ∀ j, j < k → p j) (hk : p k) : ∀ j, j < k + 1 → p j := fun j hj => by
  rcases Nat.lt_or_ge j k with h1 | h1
  · exact h j h1
  · obtain rfl : j = k := by omega
    exact hk
set_option maxRecDepth 100000 in
set_option maxHeartbeats 400000 in
theorem same18_any (w : World) (va vb : Value) (A B : List (List Int)) (ha : Tab w va A) (hb : Tab w vb B) :
    Calls Try.prog 57 #[va, vb] w fun e w' => e = .returned (.bool (decide (A = B))) ∧ ∃ q, w' = w.drewN q := by
  obtain ⟨A0, ca, rfl, ha1, ha2, ha3⟩ := ha.open_
  obtain ⟨B0, cb, rfl, hb1, hb2, hb3⟩ := hb.open_
  have HA := Lib.hid ha3
  have HB := Lib.hid hb3
  clear ha hb ha3 hb3
  by_cases hl : A.length = B.length
  · have d1 : ((A.length : Int) != (B.length : Int)) = false := by simp; omega
    have d2 : (A.length != B.length) = false := by simp; omega
    have HL := Lib.hid hl
    clear hl
    go_enter Try.func57, Try.ntmps57
    go_wp2_with fail
    go_loopw [5] (fun i wr => ∃ k : Nat, k ≤ A.length ∧ i = .int .i64 k ∧ (∀ j, j < k → A.getD j [] = B.getD j []) ∧ ∃ q, wr = w.drewN q) (fun i _ => A.length - (intOf i).toNat)
    case atStart => exact ⟨0, Nat.zero_le _, rfl, fun j hj => absurd hj (by omega), 0, rfl⟩
    case round =>
      obtain ⟨k, hk, rfl, hz, q, rfl⟩ := hrel
      have HZ := Lib.hid hz
      clear hz
      by_cases hlt : k < A.length
      · obtain ⟨b1, o1, rfl, hc1⟩ := HA.out (by omega)
        obtain ⟨b2, o2, rfl, hc2⟩ := HB.out (by rw [← HL.out]; omega)
        obtain ⟨u1, hu1, hr1⟩ := hc1 k hlt
        obtain ⟨u2, hu2, hr2⟩ := hc2 k (by rw [← HL.out]; omega)
        obtain ⟨A3, c3, rfl, hd1, hd2, hd⟩ := hr1.open_
        obtain ⟨A4, c4, rfl, he1, he2, he⟩ := hr2.open_
        have hk0 : (0 : Int) ≤ (k : Int) := Int.natCast_nonneg _
        have hkb : (k : Int) < (B.length : Int) := by rw [← HL.out]; omega
        have hka : (k : Int) < (A.length : Int) := by omega
        have HN := Lib.hid (fun h => getD_ne (A := A) (B := B) (d := []) (k := k) h)
        generalize hxe : A.getD k [] = x at *
        generalize hye : B.getD k [] = y at *
        have HXE := Lib.hid hxe
        have HYE := Lib.hid hye
        clear hxe hye
        have HD := Lib.hid hd
        have HE := Lib.hid he
        clear hc1 hc2 hr1 hr2 hd he
        by_cases hxy : x.length = y.length
        · have d3 : ((x.length : Int) != (y.length : Int)) = false := by simp; omega
          have d4 : (x.length != y.length) = false := by simp; omega
          have HX := Lib.hid hxy
          clear hxy
          go_wp2_with fail
          go_quiet (fail)
          go_wp2_with fail
          go_loopw [6] (fun i wr => ∃ j : Nat, j ≤ x.length ∧ i = .int .i64 j ∧ (∀ t, t < j → x.getD t 0 = y.getD t 0) ∧ ∃ q, wr = w.drewN q) (fun i _ => x.length - (intOf i).toNat)
          case atStart => exact ⟨0, Nat.zero_le _, rfl, fun j hj => absurd hj (by omega), (by first | exact ⟨_, rfl⟩ | exact ex_drewN)⟩
          case round =>
            obtain ⟨j, hj, rfl, hzj, qj, rfl⟩ := hrel
            have HZJ := Lib.hid hzj
            clear hzj
            by_cases hjl : j < x.length
            · obtain ⟨b3, o3, rfl, hx⟩ := HD.out (by omega)
              obtain ⟨b4, o4, rfl, hy⟩ := HE.out (by rw [← HX.out]; omega)
              have hx1 := hx j hjl
              have hy1 := hy j (by rw [← HX.out]; omega)
              have hj0 : (0 : Int) ≤ (j : Int) := Int.natCast_nonneg _
              have hjb : (j : Int) < (y.length : Int) := by rw [← HX.out]; omega
              have hja : (j : Int) < (x.length : Int) := by omega
              have HM := Lib.hid (fun h => getD_ne (A := x) (B := y) (d := 0) (k := j) h)
              clear hx hy
              generalize hse : x.getD j 0 = s at *
              generalize hte : y.getD j 0 = t at *
              have HSE := Lib.hid hse
              have HTE := Lib.hid hte
              clear hse hte
              by_cases hst : s = t
              · have d5 : (s != t) = false := by simpa using hst
                have HS := Lib.hid hst
                clear hst
                go_wp2_with fail
                go_quiet (fail)
                go_wp2_with fail
                go_roundw
                case rel => exact ⟨j + 1, by omega, by go_num, all_succ HZJ.out (by rw [HSE.out, HTE.out]; exact HS.out), (by first | exact ⟨_, rfl⟩ | exact ex_drewN)⟩
                case measure => simp [intOf]; omega
              · have d5 : (s != t) = true := by simpa using hst
                have HS := Lib.hid hst
                clear hst
                go_wp2_with fail
                go_quiet (fail)
                go_wp2_with fail
                go_ret
                exact ⟨ret_bool (by simpa using HN.out (HM.out HS.out)), (by first | exact ⟨_, rfl⟩ | exact ex_drewN)⟩
            · obtain rfl : j = x.length := by omega
              go_wp2_with fail
              go_roundw
              case rel => exact ⟨k + 1, by omega, by go_num, all_succ HZ.out (by rw [HXE.out, HYE.out]; exact getD_ext HX.out HZJ.out), _, rfl⟩
              case measure => simp [intOf]; omega
        · have d3 : ((x.length : Int) != (y.length : Int)) = true := by simp; omega
          have d4 : (x.length != y.length) = true := by simp; omega
          have HX := Lib.hid hxy
          clear hxy
          go_wp2_with fail
          go_quiet (fail)
          go_wp2_with fail
          go_ret
          exact ⟨ret_bool (by simpa using HN.out (fun e => HX.out (by rw [e]))), (by first | exact ⟨_, rfl⟩ | exact ex_drewN)⟩
      · obtain rfl : k = A.length := by omega
        go_wp2_with fail
        go_ret
        exact ⟨ret_bool (by simpa using getD_ext HL.out HZ.out), _, rfl⟩
  · have d1 : ((A.length : Int) != (B.length : Int)) = true := by simp; omega
    have d2 : (A.length != B.length) = true := by simp; omega
    have HL := Lib.hid hl
    clear hl
    go_enter Try.func57, Try.ntmps57
    go_wp2_with fail
    go_ret
    exact ⟨ret_bool (by simpa using fun e => HL.out (by rw [e])), 0, rfl⟩
theorem tab_one (w : World) (v : Value) (xs : List Int) (h : IntsAt w v xs) : Tab (w.alloc (.cells #[v] 22)) (.slice (some ⟨w.heap.size, 0, none⟩) 1 1) [xs] := by
  refine ⟨[v], ⟨_, 1, 1, rfl, rfl, Nat.le_refl _, by simp [maxLen], fun _ => ⟨w.heap.size, 0, rfl, fun j u hu => ?_⟩⟩, rfl, fun i hi => ?_⟩
  · have : j = 0 := by
      rcases j with _ | j
      · rfl
      · simp at hu
    subst this
    simp at hu
    subst hu
    have := heap_alloc_new w (.cells #[v] 22)
    unfold World.cell?
    rw [this]
    rfl
  · have : i = 0 := by simpa using hi
    subst this
    exact ⟨v, rfl, h.below ((Below.refl _ _).alloc (Nat.le_refl _) _)⟩
set_option maxRecDepth 100000 in
set_option maxHeartbeats 400000 in
theorem equal_any (w : World) (va vb : Value) (xs ys : List Int) (ha : IntsAt w va xs) (hb : IntsAt w vb ys) :
    Calls Try.prog 32 #[va, vb] w fun e w' => e = .returned (.bool (decide (xs = ys))) ∧ Below w.heap.size w w' := by
  obtain ⟨A, ca, rfl, -⟩ := ha.open_
  obtain ⟨B, cb, rfl, -⟩ := hb.open_
  have hb1 : Below w.heap.size w (w.alloc (.cells #[.slice A xs.length ca] 22)) := (Below.refl _ _).alloc (Nat.le_refl _) _
  have hb2 : Below w.heap.size w ((w.alloc (.cells #[.slice A xs.length ca] 22)).alloc (.cells #[.slice B ys.length cb] 22)) := hb1.alloc (by simp) _
  have h1 := tab_one w _ xs ha
  have h2 := tab_one (w.alloc (.cells #[.slice A xs.length ca] 22)) _ ys (hb.below hb1)
  have h1' : Tab ((w.alloc (.cells #[.slice A xs.length ca] 22)).alloc (.cells #[.slice B ys.length cb] 22)) (.slice (some ⟨w.heap.size, 0, none⟩) 1 1) [xs] := kept_tab.below h1 ((Below.refl _ _).alloc (Nat.le_refl _) _)
  rw [World.size_alloc] at h2
  have HC := Lib.hid (same18_any _ _ _ [xs] [ys] h1' h2)
  have HB := Lib.hid hb2
  clear h1 h2 h1' hb1 hb2 ha hb
  go_enter Try.func32, Try.ntmps32
  go_wp2_with (first | (go_at_call 57; (with_reducible refine HC.out.mono ?_); rintro e w' ⟨rfl, q, rfl⟩))
  go_ret
  exact ⟨ret_bool (by simp), below_drewN HB.out _⟩
end Go.Proofs
namespace Go.Proofs.Pc
/-- the last d entries of the list with rank r, and what is left of r -/
def elTo (P : PcD) (r : Int) (d : Nat) : V × Int := foldTo (fun d s => (s.1.set (P.n - 1 - d) (s.2 % P.ord (P.n - 1 - d)), s.2 / P.ord (P.n - 1 - d))) d (zV P, r)
def elP (P : PcD) (r : Int) : V := (elTo P r P.n).1
theorem elTo_succ (P : PcD) (r : Int) (d : Nat) : elTo P r (d + 1) = ((elTo P r d).1.set (P.n - 1 - d) ((elTo P r d).2 % P.ord (P.n - 1 - d)), (elTo P r d).2 / P.ord (P.n - 1 - d)) := rfl
section
variable {P : PcD} (hv : Valid P)
include hv
theorem elTo_inv {r : Int} (h0 : 0 ≤ r) (h1 : r < prod P P.n) : ∀ (d : Nat), d ≤ P.n → NV P (elTo P r d).1 ∧ 0 ≤ (elTo P r d).2 ∧ (elTo P r d).2 < prod P (P.n - d) ∧
    ∀ y : V, rk P y (P.n - d) = (elTo P r d).2 → (∀ j, P.n - d ≤ j → j < P.n → y.getD j 0 = (elTo P r d).1.getD j 0) → rk P y P.n = r
  | 0, _ => ⟨NV_z hv, h0, h1, fun y hy _ => hy⟩
  | d + 1, hd => by
    obtain ⟨n1, n2, n3, n4⟩ := elTo_inv h0 h1 d (by omega)
    obtain ⟨i, hi⟩ : ∃ i, P.n - 1 - d = i := ⟨_, rfl⟩
    have hin : i < P.n := by omega
    have hid : P.n - d = i + 1 := by omega
    have hid' : P.n - (d + 1) = i := by omega
    have ho := hv.ord2 i hin
    rw [elTo_succ, hi, hid']
    rw [hid, prod_succ] at n3
    rw [hid] at n4
    have hm := Int.emod_nonneg (elTo P r d).2 (show P.ord i ≠ 0 by omega)
    have hm2 := Int.emod_lt_of_pos (elTo P r d).2 (show 0 < P.ord i by omega)
    refine ⟨⟨by simp [n1.1], fun j hj => ?_⟩, Int.ediv_nonneg n2 (by omega), Int.ediv_lt_of_lt_mul (by omega) n3, fun y hy hyj => n4 y ?_ fun j hj hjn => ?_⟩
    · rw [getD_set]
      split
      · rename_i e; rw [← e.1]; exact ⟨hm, hm2⟩
      · exact n1.2 j hj
    · rw [rk_succ, hy, hyj i (Nat.le_refl _) hin, getD_set, if_pos ⟨rfl, by rw [n1.1]; exact hin⟩]
      have := Int.mul_ediv_add_emod (elTo P r d).2 (P.ord i)
      rw [Int.mul_comm] at this
      exact this
    · rw [hyj j (by omega) hjn, getD_set, if_neg (by omega)]
theorem elP_NV {r : Int} (h0 : 0 ≤ r) (h1 : r < prod P P.n) : NV P (elP P r) := (elTo_inv hv h0 h1 P.n (Nat.le_refl _)).1
theorem rk_el {r : Int} (h0 : 0 ≤ r) (h1 : r < prod P P.n) : rk P (elP P r) P.n = r := by
  obtain ⟨-, n2, n3, n4⟩ := elTo_inv hv h0 h1 P.n (Nat.le_refl _)
  rw [Nat.sub_self] at n3 n4
  have : prod P 0 = 1 := rfl
  exact n4 (elP P r) (by show (0 : Int) = _; omega) fun j _ _ => rfl
theorem el_rk {x : V} (hx : NV P x) : elP P (rk P x P.n) = x := by
  have hb := rk_bd hv hx P.n (Nat.le_refl _)
  have h1 := elP_NV hv hb.1 hb.2
  exact ext_len h1.1 hx.1 (rk_inj hv h1 hx P.n (Nat.le_refl _) (rk_el hv hb.1 hb.2))
end
end Go.Proofs.Pc
