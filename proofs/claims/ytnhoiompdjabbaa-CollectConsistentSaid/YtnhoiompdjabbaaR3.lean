/- The reference's product, unit, equal. -/
import Derived.Test.YtnhoiompdjabbaaR2
import Derived.Test.YtnhoiompdjabbaaSm
import Derived.Laws.MakeOwn
namespace Go.Proofs
open Go.RowKit Go.Proofs.Pc

theorem made3 (n : Nat) : madeCells (Value.int .i64 0).cells n = Array.replicate n (.int .i64 0) := by
  apply Array.ext_getElem?
  intro k
  simp only [madeCells, Value.cells, Array.getElem?_map, Array.getElem?_range, Array.getElem?_replicate]
  by_cases h : k < n
  · simp [h, Nat.mod_one]
  · simp [h]
theorem make22 (w : World) (n : Nat) (hn : n ≤ 1000) : (Instr.makeSlice 22 (.int .i64 (n : Int)) (.int .i64 (n : Int))).run Try.prog w =
    .ok (.slice (some ⟨w.heap.size, 0, none⟩) n n) (w.alloc (.cells (Array.replicate n (.int .i64 0)) 3)) := by
  obtain ⟨i, hi, hz, hs, hb⟩ := info3p
  have := run_makeSlice (P := Try.prog) w 22 3 i (.int .i64 0) Try.underlying22 hi hz .i64 .i64 n n (by omega) (Int.le_refl _) (by rw [hs]; simp; omega) (by rw [hb]; omega) (by omega)
  rw [this, hs, Int.toNat_natCast, Nat.mul_one, made3]
theorem xsAt_zero (w : World) (n : Nat) : XsAt (w.alloc (.cells (Array.replicate n (.int .i64 0)) 3)) w.heap.size (List.replicate n 0) :=
  ⟨_, heap_alloc_new w _, by simp, fun k hk => by
    have hk' : k < n := by simpa using hk
    simp [hk']⟩
theorem getD_rep (n k : Nat) : (List.replicate n (0 : Int)).getD k 0 = 0 := by
  rw [List.getD_eq_getElem?_getD, List.getElem?_replicate]; split <;> rfl
theorem xsAt_unit {P : PcD} {w : World} {b i : Nat} {e : Int} (h : XsAt w b (List.replicate P.n 0)) (hi : i < P.n) : XsAt (w.setCell ⟨b, i, none⟩ (.int .i64 e)) b (uP P i e) :=
  (h.set (k := i) (by simpa using hi) e).congr (by simp [uP]) fun k hk => by
    have hk' : k < P.n := by simpa using hk
    rw [getD_set, getD_rep, getD_uP]
    by_cases h2 : i = k
    · subst h2; simp [hi]
    · rw [if_neg (fun hh => h2 hh.1), if_neg (fun hh => h2 hh.1.symm)]

/-- v reads as x, in a block b of the call's own, from n₀ on -/
def XsOut (n₀ : Nat) (P : PcD) (w : World) (x : List Int) (v : Value) (w' : World) : Prop := ∃ b cap, v = .slice (some ⟨b, 0, none⟩) P.n cap ∧ XsAt w' b x ∧ n₀ ≤ b ∧ P.n ≤ cap ∧ cap ≤ 9223372036854775807 ∧ Below w.heap.size w w'
theorem XsOut.ints {n₀ : Nat} {P : PcD} {w w' : World} {x : List Int} {v : Value} (h : XsOut n₀ P w x v w') (hv : Valid P) (hx : NV P x) : IntsAt w' v x := by
  obtain ⟨b, cap, rfl, h1, -, h2, h3, -⟩ := h
  exact h1.ints hx.1 h2 h3 (Pc.NV.fits hv hx)

set_option maxRecDepth 100000 in
set_option maxHeartbeats 400000 in
theorem unitRef_any {P : PcD} (hv : Valid P) (w : World) (v0 v1 v2 : Value) (hP : PcAt w v0 v1 v2 P) (i : Nat) (hi : i < P.n) :
    Calls Try.prog 50 #[.agg #[v0, v1, v2], .int .i64 i] w fun e w' => ∃ v, e = .returned v ∧ XsOut w.heap.size P w (uP P i 1) v w' := by
  have h12 := hv.n12
  obtain ⟨⟨A0, c0, rfl⟩, ⟨A1, c1, rfl⟩, A2, c2, rfl⟩ := pc_slices hP
  have hmk := make22 (w.alloc (.cells #[.slice A0 P.orders.length c0, .slice A1 P.powers.length c1, .slice A2 P.conj.length c2] 26)) P.orders.length (by have : P.n = P.orders.length := rfl; omega)
  have hz := xsAt_zero (w.alloc (.cells #[.slice A0 P.orders.length c0, .slice A1 P.powers.length c1, .slice A2 P.conj.length c2] 26)) P.orders.length
  have hc := hz.cell (k := i) (by rw [List.length_replicate]; exact hi)
  have hf := hz.frozen i
  have hx := xsAt_unit (P := P) (e := 1) hz hi
  rw [World.size_alloc] at hmk hz hc hf hx
  have hb : Below w.heap.size w ((w.alloc (.cells #[.slice A0 P.orders.length c0, .slice A1 P.powers.length c1, .slice A2 P.conj.length c2] 26)).alloc (.cells (Array.replicate P.orders.length (.int .i64 0)) 3)) := allocs_below [_, _] w _ (Nat.le_refl _)
  have hi0 : (0 : Int) ≤ (i : Int) := Int.natCast_nonneg _
  have hi1 : (i : Int) < (P.orders.length : Int) := by have : P.n = P.orders.length := rfl; omega
  have HX := Lib.hid hx
  have HB := Lib.hid hb
  clear hP hz hx hb
  generalize hW : (w.alloc (.cells #[.slice A0 P.orders.length c0, .slice A1 P.powers.length c1, .slice A2 P.conj.length c2] 26)).alloc (.cells (Array.replicate P.orders.length (.int .i64 0)) 3) = W at *
  go_enter Try.func50, Try.ntmps50
  go_wp2_with fail
  go_ret
  exact ⟨_, rfl, _, _, rfl, HX.out, Nat.le_succ _, Nat.le_refl _, by have : P.n = P.orders.length := rfl; omega, HB.out.setCell (p := ⟨w.heap.size + 1, i, none⟩) (Nat.le_succ _) _⟩

set_option maxRecDepth 100000 in
set_option maxHeartbeats 400000 in
theorem product_any {P : PcD} (hv : Valid P) (w : World) (v0 v1 v2 xv yv : Value) (x y : List Int) (hP : PcAt w v0 v1 v2 P) (hxv : IntsAt w xv x) (hyv : IntsAt w yv y) (hx : NV P x) (hy : NV P y) :
    Calls Try.prog 49 #[.agg #[v0, v1, v2], xv, yv] w fun e w' => ∃ v, e = .returned v ∧ XsOut w.heap.size P w (mulP P x y) v w' := by
  have h12 := hv.n12
  have hxl := hx.1
  obtain ⟨⟨A0, c0, rfl⟩, ⟨A1, c1, rfl⟩, A2, c2, rfl⟩ := pc_slices hP
  obtain ⟨W, hW⟩ : ∃ W, W = (w.alloc (.cells #[.slice A0 P.orders.length c0, .slice A1 P.powers.length c1, .slice A2 P.conj.length c2] 26)).alloc (.cells #[] 3) := ⟨_, rfl⟩
  have hBW : Below w.heap.size w W := by rw [hW]; exact allocs_below [_, _] w _ (Nat.le_refl _)
  have hWb : W.heap[w.heap.size]? = some (.cells #[.slice A0 P.orders.length c0, .slice A1 P.powers.length c1, .slice A2 P.conj.length c2] 26 (0, 0)) := by rw [hW]; exact allocs_get [_, Obj.cells #[] 3] w 0 _ rfl
  have hWe : W.heap[w.heap.size + 1]? = some (.cells #[] 3 (0, 0)) := by rw [hW]; exact allocs_get [Obj.cells _ 26, _] w 1 _ rfl
  have hWs : W.heap.size = w.heap.size + 2 := by rw [hW]; simp
  obtain ⟨b', cap', w3, hr, hb3, hy3, hc3, hm3, hb'⟩ := run_copy hWe (hxv.below hBW) (by rw [hxl]; omega)
  have h3b : w3.heap[w.heap.size]? = some (.cells #[.slice A0 P.orders.length c0, .slice A1 P.powers.length c1, .slice A2 P.conj.length c2] 26 (0, 0)) := (hb3.block _ (by omega)).trans hWb
  have hBw3 : Below w.heap.size w w3 := hBW.trans (hb3.mono hBW.size)
  have hbb : w.heap.size ≤ b' := by omega
  rw [hxl] at hr hc3
  rw [hW] at hr
  have HR := Lib.hid hr
  have HK := Lib.hid (rby_ok hv P.n w3 w.heap.size b' cap' _ _ _ yv x y ((hP.pcB).below hBw3 (Nat.le_refl _)) hbb hy3 hc3 hm3 hx (hyv.below hBw3) hy.1 (Pc.NV.small hv hy))
  have HB3 := Lib.hid hBw3
  obtain ⟨Av, cv, rfl, -⟩ := hyv.open_
  clear hr hP hxv hyv hy3 hWb hWe hW hWs hb3 hBW hBw3 hb' hxl
  go_enter Try.func49, Try.ntmps49
  go_wp2_with (first
    | ((with_reducible refine wpList_sel 10 ?_); refine wpList_val rfl (r_app (.tmp 8) (.tmp 9) 22 rfl rfl rfl HR.out) ?_)
    | ((with_reducible refine wpList_sel 11 ?_); refine wpList_val rfl (r_load26 (.tmp 3) w.heap.size _ _ _ rfl rfl h3b) ?_)
    | (go_at_call 78; (refine HK.out.mono ?_); rintro e w5 ⟨rfl, hc5, hg5⟩))
  go_ret
  exact ⟨_, rfl, b', cap', rfl, hc5, hbb, hc3, hm3, HB3.out.grown hg5 HB3.out.size (fun k e => by cases e; exact hbb)⟩

set_option maxRecDepth 100000 in
set_option maxHeartbeats 400000 in
theorem equalRef_any (w : World) (va vb : Value) (x y : List Int) (ha : IntsAt w va x) (hb : IntsAt w vb y) (hl : x.length = y.length) :
    Calls Try.prog 51 #[va, vb] w fun e w' => e = .returned (.bool (decide (x = y))) ∧ ∃ q, w' = w.drewN q := by
  obtain ⟨A3, c3, rfl, hd1, hd2, hd⟩ := ha.open_
  obtain ⟨A4, c4, rfl, he1, he2, he⟩ := hb.open_
  have HD := Lib.hid hd
  have HE := Lib.hid he
  have d3 : ((x.length : Int) == (y.length : Int)) = true := by simp; omega
  have d4 : (x.length == y.length) = true := by simp; omega
  have HX := Lib.hid hl
  clear hd he ha hb hl
  go_enter Try.func51, Try.ntmps51
  go_wp2_with fail
  go_loopw [5] (fun i wr => ∃ j : Nat, j ≤ x.length ∧ i = .int .i64 j ∧ (∀ t, t < j → x.getD t 0 = y.getD t 0) ∧ ∃ q, wr = w.drewN q) (fun i _ => x.length - (intOf i).toNat)
  case atStart => exact ⟨0, Nat.zero_le _, rfl, fun j hj => absurd hj (by omega), 0, rfl⟩
  case round =>
    obtain ⟨j, hj, rfl, hzj, qj, rfl⟩ := hrel
    have HZJ := Lib.hid hzj
    clear hzj
    by_cases hjl : j < x.length
    · obtain ⟨b3, o3, rfl, hx⟩ := HD.out (by omega)
      obtain ⟨b4, o4, rfl, hy⟩ := HE.out (by rw [← HX.out]; omega)
      have hx1 := hx j hjl
      have hy1 := hy j (by rw [← HX.out]; omega)
      have hj0 : (0 : Int) ≤ (j : Int) := Int.natCast_nonneg _
      have hjb : (j : Int) < (y.length : Int) := by rw [← HX.out]; omega
      have hja : (j : Int) < (x.length : Int) := by omega
      have HM := Lib.hid (fun h => getD_ne (A := x) (B := y) (d := 0) (k := j) h)
      clear hx hy
      generalize hse : x.getD j 0 = s at *
      generalize hte : y.getD j 0 = t at *
      have HSE := Lib.hid hse
      have HTE := Lib.hid hte
      clear hse hte
      by_cases hst : s = t
      · have d5 : (s != t) = false := by simpa using hst
        have HS := Lib.hid hst
        clear hst
        go_wp2_with fail
        go_quiet (fail)
        go_wp2_with fail
        go_roundw
        case rel => exact ⟨j + 1, by omega, by go_num, all_succ HZJ.out (by rw [HSE.out, HTE.out]; exact HS.out), (by first | exact ⟨_, rfl⟩ | exact ex_drewN)⟩
        case measure => simp [intOf]; omega
      · have d5 : (s != t) = true := by simpa using hst
        have HS := Lib.hid hst
        clear hst
        go_wp2_with fail
        go_quiet (fail)
        go_wp2_with fail
        go_ret
        exact ⟨ret_bool (by simpa using HM.out HS.out), (by first | exact ⟨_, rfl⟩ | exact ex_drewN)⟩
    · obtain rfl : j = x.length := by omega
      go_wp2_with fail
      go_ret
      exact ⟨ret_bool (by simpa using getD_ext HX.out HZJ.out), (by first | exact ⟨_, rfl⟩ | exact ex_drewN)⟩
end Go.Proofs
