/- The walk of CosetMaps (printed by genSj.py). -/
import Derived.Test.YtcfighimnkfmeaaCmCS20
namespace Go.Proofs
open Go.RowKit Go.Shelf Go.Proofs.Ct Go.Maps
set_option maxRecDepth 100000 in
set_option maxHeartbeats 8000000 in
theorem maps13_any (w : World) (deg : Int) (va vb vr vs : Value) (la lb lr ls : List Int) (ha : IntsAt w va la) (hb : IntsAt w vb lb) (hr : IntsAt w vr lr) (hs : IntsAt w vs ls) (_hw : -9223372036854775808 ≤ deg ∧ deg ≤ 9223372036854775807) :
    Calls Try.prog 13 #[.int .i64 deg, va, vb, vr, vs] w fun e w' => e = .returned (.bool true) ∧ Below w.heap.size w w' := by
  have HA := Lib.hid ha
  have HB := Lib.hid hb
  have HR := Lib.hid hr
  have HS := Lib.hid hs
  obtain ⟨Aa, ca, rfl, q1, q2, -⟩ := ha.open_
  have ha3 : (la.length : Int) ≤ 9223372036854775807 := by omega
  have ha4 : (0 : Int) ≤ (la.length : Int) := Int.natCast_nonneg _
  clear q1 q2
  obtain ⟨Ab, cb, rfl, q1, q2, -⟩ := hb.open_
  have hb3 : (lb.length : Int) ≤ 9223372036854775807 := by omega
  have hb4 : (0 : Int) ≤ (lb.length : Int) := Int.natCast_nonneg _
  clear q1 q2
  obtain ⟨Ar, cr, rfl, q1, q2, -⟩ := hr.open_
  have hr3 : (lr.length : Int) ≤ 9223372036854775807 := by omega
  have hr4 : (0 : Int) ≤ (lr.length : Int) := Int.natCast_nonneg _
  clear q1 q2
  obtain ⟨As, cs, rfl, q1, q2, -⟩ := hs.open_
  have hs3 : (ls.length : Int) ≤ 9223372036854775807 := by omega
  have hs4 : (0 : Int) ≤ (ls.length : Int) := Int.natCast_nonneg _
  clear q1 q2
  clear ha hb hr hs
  by_cases a0 : 6 < (la.length : Int)
  · go_enter Try.func13, Try.ntmps13
    go_wp2_with fail
    refine (known9_any _).mono ?_
    rintro e v1 ⟨rfl, hb⟩
    have HB1 := Lib.hid hb
    clear hb
    go_wp2_with fail
    go_ret
    exact ⟨rfl, HB1.out⟩
  have a0' : (la.length : Int) ≤ 6 := by omega
  clear a0
  by_cases a1 : 6 < (lb.length : Int)
  · go_enter Try.func13, Try.ntmps13
    go_wp2_with fail
    refine (known9_any _).mono ?_
    rintro e v1 ⟨rfl, hb⟩
    have HB1 := Lib.hid hb
    clear hb
    go_wp2_with fail
    go_ret
    exact ⟨rfl, HB1.out⟩
  have a1' : (lb.length : Int) ≤ 6 := by omega
  clear a1
  by_cases a2 : 60 < (lr.length : Int)
  · go_enter Try.func13, Try.ntmps13
    go_wp2_with fail
    refine (known9_any _).mono ?_
    rintro e v1 ⟨rfl, hb⟩
    have HB1 := Lib.hid hb
    clear hb
    go_wp2_with fail
    go_ret
    exact ⟨rfl, HB1.out⟩
  have a2' : (lr.length : Int) ≤ 60 := by omega
  clear a2
  by_cases a3 : 30 < (ls.length : Int)
  · go_enter Try.func13, Try.ntmps13
    go_wp2_with fail
    refine (known9_any _).mono ?_
    rintro e v1 ⟨rfl, hb⟩
    have HB1 := Lib.hid hb
    clear hb
    go_wp2_with fail
    go_ret
    exact ⟨rfl, HB1.out⟩
  have a3' : (ls.length : Int) ≤ 30 := by omega
  clear a3
  obtain ⟨q, hq, hq6⟩ : ∃ q : Nat, deg % 6 = (q : Int) ∧ q < 6 := ⟨(deg % 6).toNat, by omega, by omega⟩
  have H59 : Hid (∀ W, Calls Try.prog 59 #[.int .i64 deg, .int .i64 6] W fun e w' => e = .returned (.int .i64 (q : Int)) ∧ w' = W) := Lib.hid fun W => by
    rw [← hq]
    exact turn59_any W deg 6 (by omega)
  clear hq
  obtain ⟨d, hdq⟩ : ∃ d : Nat, d = 1 + q := ⟨_, rfl⟩
  have ed : 1 + (q : Int) = (d : Int) := by omega
  have hd1 : 1 ≤ d := by omega
  have hd6 : d ≤ 6 := by omega
  have hq0 : (0 : Int) ≤ (q : Int) := Int.natCast_nonneg _
  have hq1 : (q : Int) < 6 := by omega
  clear hdq hq6
  have PA := Lib.hid (permF_prm d la)
  have PB := Lib.hid (permF_prm d lb)
  have H63a : Hid (∀ W, Below w.heap.size w W → Calls Try.prog 63 #[.slice Aa la.length ca, .int .i64 (d : Int)] W fun e w' => (∃ A c, e = .returned (.slice A d c) ∧ IntsAt w' (.slice A d c) (nz (permF d la))) ∧ Below W.heap.size W w') := Lib.hid fun W h => perm63_any W _ la d ⟨hd1, hd6⟩ (HA.out.below h)
  have H63b : Hid (∀ W, Below w.heap.size w W → Calls Try.prog 63 #[.slice Ab lb.length cb, .int .i64 (d : Int)] W fun e w' => (∃ A c, e = .returned (.slice A d c) ∧ IntsAt w' (.slice A d c) (nz (permF d lb))) ∧ Below W.heap.size W w') := Lib.hid fun W h => perm63_any W _ lb d ⟨hd1, hd6⟩ (HB.out.below h)
  have H58r : Hid (∀ W, Below w.heap.size w W → Calls Try.prog 58 #[.slice Ar lr.length cr, .int .i64 2] W (LawWordsPostO (lawWords 2 6 lr) W)) := Lib.hid fun W h => words58_own W _ lr 2 (HR.out.below h) (by omega) (by omega)
  have H58s : Hid (∀ W, Below w.heap.size w W → Calls Try.prog 58 #[.slice As ls.length cs, .int .i64 2] W (LawWordsPostO (lawWords 2 6 ls) W)) := Lib.hid fun W h => words58_own W _ ls 2 (HS.out.below h) (by omega) (by omega)
  have HWM := Lib.hid (wds_map lr)
  have HWL : Hid (mapWords lr = lawWords 2 6 lr ++ [[1], [2], [1, 2]]) := Lib.hid rfl
  have HWS := Lib.hid (wds_law (g := 2) (by omega) 6 ls)
  have HXL : Hid ((lawWords 2 6 lr).length ≤ 6) := Lib.hid (wds_law (g := 2) (by omega) 6 lr).len
  clear HA HB HR HS
  generalize permF d la = pa at *
  generalize permF d lb = pb at *
  generalize mapWords lr = lw at *
  generalize lawWords 2 6 lr = xr at *
  generalize lawWords 2 6 ls = xs at *
  go_enter Try.func13, Try.ntmps13
  go_wp2_with fail
  refine (known9_any _).mono ?_
  rintro e v1 ⟨rfl, hb⟩
  have HB1 := Lib.hid hb
  clear hb
  go_wp2_with fail
  refine (H59.out _).mono ?_
  rintro e v2 ⟨rfl, rfl⟩
  go_wp2_with fail
  refine (H63a.out _ HB1.out).mono ?_
  rintro e v3 ⟨⟨Pa, pca, rfl, hpa⟩, hb⟩
  have HB3 := Lib.hid (bl3 HB1.out hb)
  have HPA := Lib.hid hpa
  clear hb hpa
  go_wp2_with fail
  refine (H63b.out _ HB3.out).mono ?_
  rintro e v4 ⟨⟨Pb, pcb, rfl, hpb⟩, hb⟩
  have HT4 : Hid (Two (v4.alloc (.cells #[.slice Pa d pca, .slice Pb d pcb] 81)) (.slice (some ⟨v4.heap.size, 0, none⟩) 2 2) pa pb) := Lib.hid (two_new (HPA.out.below hb) hpb)
  have HB4 := Lib.hid (bl3 HB3.out hb)
  have HB5 : Hid (Below w.heap.size w (v4.alloc (.cells #[.slice Pa d pca, .slice Pb d pcb] 81))) := Lib.hid (HB4.out.alloc HB4.out.size _)
  clear hb hpb HPA
  have b83 := bs83_2 Pa Pb d d pca pcb
  go_wp2_with fail
  have HB6 : Hid (Below w.heap.size w ((v4.alloc (.cells #[.slice Pa d pca, .slice Pb d pcb] 81)).alloc (.cells #[.int .i64 2, .slice none 0 0] 40))) := Lib.hid (HB5.out.alloc HB5.out.size _)
  have hz : v4.heap.size + 1 = (v4.alloc (.cells #[.slice Pa d pca, .slice Pb d pcb] 81)).heap.size := by rw [World.size_alloc]
  rw [hz]
  generalize v4.alloc (.cells #[.slice Pa d pca, .slice Pb d pcb] 81) = v5 at *
  clear hz b83
  generalize v4.heap.size = tb at *
  generalize hv6 : v5.alloc (.cells #[.int .i64 2, .slice none 0 0] 40) = v6 at *
  have HT6 : Hid (Below v5.heap.size v5 v6) := Lib.hid (by rw [← hv6]; exact (Below.refl _ _).alloc (Nat.le_refl _) _)
  have HBX : Hid (v6.heap[v5.heap.size]? = some (.cells #[.int .i64 2, .slice none 0 0] 40 (0, 0)) ∧ v5.heap.size < v6.heap.size) := Lib.hid (by rw [← hv6]; exact ⟨heap_alloc_new _ _, by simp⟩)
  clear hv6
  refine (H58r.out _ HB6.out).mono ?_
  rintro e v7 ⟨⟨A7, c7, rfl, F7, hO⟩, hb⟩
  obtain ⟨A8, c8, v8, hr8, ht8, hb8⟩ := rel3 hO rfl (by have := HXL.out; omega)
  have HB8 := Lib.hid (bl3 HB6.out hb8)
  rw [← HWL.out] at ht8
  have hbv := bl3 HT6.out hb8
  have HKP : Hid (∀ W : World, (∀ k, k < v8.heap.size → k ≠ v5.heap.size → W.heap[k]? = v8.heap[k]?) → Two W (.slice (some ⟨tb, 0, none⟩) 2 2) pa pb ∧ Tab W (.slice A8 (xr.length + 3) c8) lw) := Lib.hid fun W h =>
    ⟨kept_tab _ _ _ _ (fun k hk => (h k (Nat.lt_of_lt_of_le hk hbv.size) (by omega)).trans (hbv.block k hk)) HT4.out, ht8 W fun k h1 h2 => h k h2 (by have := HBX.out.2; omega)⟩
  have HR0 : Hid (RelS v8 v5.heap.size (fun _ => False) v8 none 0 []) := Lib.hid (RelS.start ((hb8.block _ HBX.out.2).trans HBX.out.1))
  have HB58 : Hid (w.heap.size ≤ v5.heap.size) := Lib.hid HB5.out.size
  have hll : xr.length + 3 = lw.length := by rw [HWL.out]; simp
  have HR8 := Lib.hid hr8
  have HL8 := Lib.hid ht8.at_
  clear ht8
  have hl9 : lw.length ≤ 9 := HWM.out.len
  clear hO hb hr8 hb8 hbv HT4 HT6 HBX H63a H63b H59
  rw [hll] at HR8 HL8 HKP
  generalize v5.heap.size = bx at *
  unfold lit7 at HR8
  have hlI : (lw.length : Int) ≤ 9 := by omega
  have hl0 : (0 : Int) ≤ (lw.length : Int) := Int.natCast_nonneg _
  go_wp2_with (first
    | ((with_reducible refine wpList_sel 70 ?_); refine wpList_val rfl (r_app (.tmp 65) (.tmp 69) 31 rfl rfl rfl HR8.out) ?_))
  have HLL := Lib.hid hll
  clear hll
  go_loopw [14] (fun i wr => ∃ k : Nat, i = .int .i64 (k : Int) ∧ k ≤ lw.length ∧ Hid (∃ F A c acc, RelS v8 bx F wr A c acc ∧ acc.length = k ∧ Below w.heap.size w wr ∧ ∀ j, j < k → IsRel pa pb d (lw.getD j []) (acc.getD j []))) (fun i _ => lw.length - (intOf i).toNat)
  case atStart => exact ⟨0, rfl, Nat.zero_le _, Lib.hid ⟨_, none, 0, [], HR0.out, rfl, HB8.out, fun j hj => absurd hj (by omega)⟩⟩
  case round =>
    obtain ⟨k, rfl, hk, HQ⟩ := hrel
    have hk0 : (0 : Int) ≤ (k : Int) := Int.natCast_nonneg _
    obtain ⟨F, A, c, acc, hRS, hal, hbw, hrel⟩ := HQ.out
    have HRS := Lib.hid hRS
    have HAL := Lib.hid hal
    have HBW := Lib.hid hbw
    have HREL := Lib.hid hrel
    obtain ⟨hTw, hTb⟩ := HKP.out wr fun q h1 h2 => hRS.kept h1 h2
    have HTW := Lib.hid hTw
    have HTB := Lib.hid hTb
    clear HQ hRS hal hbw hrel hTw hTb
    by_cases hlt : k < lw.length
    · have hlt' : (k : Int) < (lw.length : Int) := by omega
      obtain ⟨A', c', e', -, -, hcc⟩ := LAt.open_ HTB.out
      obtain ⟨b8, o8, rfl, hrw⟩ := (by obtain ⟨rfl, -, rfl⟩ := Value.slice.inj e'; exact hcc (by omega) : ∃ b off, A8 = some ⟨b, off, none⟩ ∧ ∀ k, k < lw.length → ∃ u, wr.cell? ⟨b, off + k, none⟩ = some u ∧ IntsAt wr u (lw.getD k []))
      obtain ⟨u, x1, hi⟩ := hrw k hlt
      obtain ⟨Au, cu, rfl, -, -, -⟩ := hi.open_
      have hrl : (lw.getD k []).length ≤ 12 := HWM.out.short k
      have HRI : Hid (∀ W, Below wr.heap.size wr W → W.cell? ⟨b8, o8 + k, none⟩ = some (.slice Au (lw.getD k []).length cu) ∧ IntsAt W (.slice Au (lw.getD k []).length cu) (lw.getD k [])) := Lib.hid fun W h => ⟨(h.cell (p := ⟨b8, o8 + k, none⟩) (World.block_lt_of_cell? wr _ x1)).trans x1, hi.below h⟩
      have HOR := Lib.hid (order64_any wr _ _ pa pb d (lw.getD k []) ⟨hd1, hd6⟩ PA.out PB.out HTW.out hi (HWM.out.ok k hlt))
      have HROK := Lib.hid (HWM.out.ok k hlt)
      have HNEW : Hid (∀ n, 1 ≤ n → n ≤ 6 → (∀ x, x < d → actW (act2 pa pb) x (wpow (lw.getD k []) n) = x) → ∀ j, j < k + 1 → IsRel pa pb d (lw.getD j []) ((acc ++ [wpow (lw.getD k []) n]).getD j [])) := Lib.hid fun n h1 h2 h3 j hj => by
        by_cases e : j = k
        · subst e
          refine ⟨n, h1, h2, ?_, ?_⟩
          · simp [List.getD_eq_getElem?_getD, ← HAL.out]
          · intro x hx
            rw [show (acc ++ [wpow (lw.getD j []) n]).getD j [] = wpow (lw.getD j []) n by simp [List.getD_eq_getElem?_getD, ← HAL.out]]
            exact h3 x hx
        · rw [getD_append_left (by have := HAL.out; omega)]
          exact HREL.out j (by omega)
      clear hrw hcc e' hi HREL HTB HTW
      generalize lw.getD k [] = row at *
      go_wp2_with fail
      refine HOR.out.mono ?_
      rintro e v9 ⟨⟨n, rfl, hn1, hn6, hfix⟩, rfl⟩
      have HFX := Lib.hid hfix
      have hn0 : (0 : Int) ≤ (n : Int) := Int.natCast_nonneg _
      have hnI : (n : Int) ≤ 6 := by omega
      clear hfix HOR x1
      go_wp2_with fail
      go_loopw [16, 17] (fun sv i wr2 => ∃ m p : Nat, i = .int .i64 (m : Int) ∧ m ≤ n ∧ p = (n - m) * row.length ∧ ∃ A c, sv = .slice A p c ∧ Hid (OwnI v9.heap.size wr2 sv (wpow row (n - m))) ∧ Hid (Below v9.heap.size v9 wr2)) (fun _ i _ => (intOf i).toNat)
      case atStart => exact ⟨n, 0, rfl, Nat.le_refl _, by rw [Nat.sub_self, Nat.zero_mul], none, 0, rfl, Lib.hid (by rw [Nat.sub_self]; exact World.ownsRow_nil _ _ _ _), Lib.hid (Below.refl _ _)⟩
      case round =>
        obtain ⟨m, p, rfl, hm, hp, Am, cm2, rfl, HO, HBm⟩ := hrel
        by_cases hm0 : 0 < m
        · have hm0' : (0 : Int) < (m : Int) := by omega
          obtain ⟨m1, hm1⟩ : ∃ m1, m = m1 + 1 := ⟨m - 1, by omega⟩
          have em : (m : Int) - 1 = (m1 : Int) := by omega
          have en : n - m1 = n - m + 1 := by omega
          obtain ⟨x1, hri⟩ := HRI.out wr HBm.out
          have hb1 : (wpow row (n - m)).length ≤ 1000 := by
            rw [length_wpow]
            exact Nat.le_trans (Nat.mul_le_mul (show n - m ≤ 6 by omega) hrl) (by omega)
          obtain ⟨A2', c2', w12, hr12, ho12, hg12, -⟩ := app_ints 25 25 Try.underlying25 wr v9.heap.size _ (wpow row (n - m)) HO.out _ _ hri (by omega) (by omega) HBm.out.size
          have hb12 : Below v9.heap.size v9 w12 := HBm.out.grown hg12 HBm.out.size fun r hr => (owns_block HO.out r hr).1
          have e2 : wpow row (n - m) ++ row = wpow row (n - m1) := by rw [en]; rfl
          rw [e2] at hr12 ho12
          obtain ⟨p2, hp2⟩ : ∃ p2, p2 = (wpow row (n - m1)).length := ⟨_, rfl⟩
          rw [← hp2] at hr12 ho12
          rw [length_wpow] at hp2
          have HR12 := Lib.hid hr12
          have HO12 := Lib.hid ho12
          have HB12 := Lib.hid hb12
          have HP2 := Lib.hid hp2
          clear hr12 ho12 hb12 hri HO hg12 e2 hb1 hp2 hp
          go_wp2_with (first
            | ((with_reducible refine wpList_sel 93 ?_); refine wpList_val rfl (r_app (.tmp 88) (.tmp 92) 25 rfl rfl rfl HR12.out) ?_))
          go_roundw
          case rel => exact ⟨m1, p2, by first | rfl | go_num, by omega, HP2.out, A2', c2', rfl, HO12, HB12⟩
          case measure => simp [intOf]; omega
        · obtain rfl : m = 0 := by omega
          rw [Nat.sub_zero] at hp HO
          have hR1 := HRS.out.below' HBm.out
          have ho2 : OwnI v9.heap.size wr (.slice Am (wpow row n).length cm2) (wpow row n) := by rw [length_wpow, ← hp]; exact HO.out
          obtain ⟨A3, c3, w13, hr13, ⟨x2, x3⟩, hR13⟩ := HRS.out.push HBm.out ho2 (fits_ok (g := 2) (by omega) (wpow_ok HROK.out n)) (by have := HAL.out; omega)
          have x1 := (cell_of2 hR1.box).2
          rw [length_wpow, ← hp] at hr13
          rw [HAL.out] at x1 x2 hr13 hR13
          have HR13 := Lib.hid hr13
          have HQ13 : Hid (∃ F A c acc, RelS v8 bx F (w13.setCell ⟨bx, 1, none⟩ (.slice A3 (k + 1) c3)) A c acc ∧ acc.length = k + 1 ∧ Below w.heap.size w (w13.setCell ⟨bx, 1, none⟩ (.slice A3 (k + 1) c3)) ∧ ∀ j, j < k + 1 → IsRel pa pb d (lw.getD j []) (acc.getD j [])) := Lib.hid ⟨_, A3, c3, _, hR13, by simp [HAL.out], hR13.belowW HB8.out HB58.out, HNEW.out n hn1 hn6 HFX.out⟩
          clear hr13 hR13 hR1 ho2 hp HO
          go_wp2_with (first
            | ((with_reducible refine wpList_sel 98 ?_); refine wpList_val rfl (r_app (.tmp 95) (.tmp 97) 31 rfl rfl rfl HR13.out) ?_))
          go_roundw
          case rel => exact ⟨k + 1, by go_num, by omega, HQ13⟩
          case measure => simp [intOf]; omega
    · obtain rfl : k = lw.length := by omega
      have HKB : Hid (∀ W, Below wr.heap.size wr W → Two W (.slice (some ⟨tb, 0, none⟩) 2 2) pa pb ∧ Tab W (.slice A acc.length c) acc ∧ W.heap[bx]? = some (.cells #[.int .i64 2, .slice A acc.length c] 40 (0, 0))) := Lib.hid fun W h =>
        ⟨kept_tab.below HTW.out h, (HRS.out.below' h).rels, (HRS.out.below' h).box⟩
      clear HRS HTW HTB HKP HR0 HL8 HR8 hlt hk hk0
      go_wp2_with fail
      refine (H58s.out _ HBW.out).mono ?_
      rintro e v9 ⟨⟨A9, c9, rfl, F9, hO⟩, hb⟩
      have HB9 := Lib.hid hb
      have HW9 := Lib.hid (bl3 HBW.out hb)
      have HX9 : Hid (∀ W, Below v9.heap.size v9 W → Tab W (.slice A9 xs.length c9) xs) := Lib.hid fun W h => kept_tab.below hO.out.tab h
      have HN9 : Hid (OwnT 25 v9.heap.size (fun q => q < v9.heap.size) v9 (.slice none 0 0) []) := Lib.hid ⟨[], World.ownsRow_nil _ _ _ _, RowsF.nil _ _⟩
      have hxl : xs.length ≤ 6 := HWS.out.len
      have hxI : (xs.length : Int) ≤ 6 := by omega
      have hx0 : (0 : Int) ≤ (xs.length : Int) := Int.natCast_nonneg _
      clear hO hb
      go_wp2_with fail
      go_loopw [18, 19] (fun sv i wr2 => ∃ k m : Nat, i = .int .i64 (k : Int) ∧ k ≤ xs.length ∧ ∃ A c, sv = .slice A m c ∧ Hid ((subsAt pa pb (xs.take k)).length = m) ∧ Hid (OwnT 25 v9.heap.size (fun q => q < v9.heap.size) wr2 sv (subsAt pa pb (xs.take k))) ∧ Hid (Below v9.heap.size v9 wr2)) (fun _ i _ => xs.length - (intOf i).toNat)
      case atStart => exact ⟨0, 0, rfl, Nat.zero_le _, none, 0, rfl, Lib.hid rfl, HN9, Lib.hid (Below.refl _ _)⟩
      case round =>
        obtain ⟨k, m, rfl, hk, Ao, co, rfl, HM, HO, HBk⟩ := hrel
        have hk0 : (0 : Int) ≤ (k : Int) := Int.natCast_nonneg _
        by_cases hlt : k < xs.length
        · have hlt' : (k : Int) < (xs.length : Int) := by omega
          obtain ⟨Aq, cq, eq, -, -, hcc⟩ := LAt.open_ (HX9.out _ (Below.refl _ _))
          obtain ⟨b9, o9, rfl, hrw⟩ := (by obtain ⟨rfl, -, rfl⟩ := Value.slice.inj eq; exact hcc (by omega) : ∃ b off, A9 = some ⟨b, off, none⟩ ∧ ∀ k, k < xs.length → ∃ u, v9.cell? ⟨b, off + k, none⟩ = some u ∧ IntsAt v9 u (xs.getD k []))
          obtain ⟨u, hu, hi⟩ := hrw k hlt
          obtain ⟨Au, cu, rfl, -, -, -⟩ := hi.open_
          have x1 := (HBk.out.cell (p := ⟨b9, o9 + k, none⟩) (World.block_lt_of_cell? v9 _ hu)).trans hu
          have HIF : Hid (IntsF (fun q => q < v9.heap.size) wr (.slice Au (xs.getD k []).length cu) (xs.getD k [])) := Lib.hid ((IntsF.of_at hi).keep (Ag.below HBk.out fun _ h => h))
          have HIM : Hid (Calls Try.prog 65 #[.slice (some ⟨tb, 0, none⟩) 2 2, .int .i64 0, .slice Au (xs.getD k []).length cu] wr fun e w' => e = .returned (.int .i64 ((actW (act2 pa pb) 0 (xs.getD k []) : Nat) : Int)) ∧ w' = wr) := Lib.hid (img65_any wr _ _ pa pb d 0 (xs.getD k []) ⟨hd1, hd6⟩ PA.out PB.out (HKB.out _ (bl3 HB9.out HBk.out)).1 (hi.below HBk.out) (by omega) (HWS.out.ok k hlt))
          have HSN : Hid (subsAt pa pb (xs.take (k + 1)) = subsAt pa pb (xs.take k) ++ (if actW (act2 pa pb) 0 (xs.getD k []) = 0 then [xs.getD k []] else [])) := Lib.hid (by
            rw [take_snoc (d := []) hlt]
            unfold subsAt
            rw [List.filter_append]
            congr 1
            by_cases h : actW (act2 pa pb) 0 (xs.getD k []) = 0
            · rw [if_pos h]; simp only [List.filter_cons, List.filter_nil, h, beq_self_eq_true, if_true]
            · rw [if_neg h]; simp only [List.filter_cons, List.filter_nil, beq_eq_false_iff_ne.2 h, Bool.false_eq_true, if_false])
          have hml : m ≤ 6 := by
            rw [← HM.out]
            exact Nat.le_trans (List.length_filter_le _ _) (by rw [List.length_take]; omega)
          clear hrw hcc eq hu hi
          generalize xs.getD k [] = row at *
          generalize actW (act2 pa pb) 0 row = z at *
          go_wp2_with fail
          refine HIM.out.mono ?_
          rintro e v10 ⟨rfl, rfl⟩
          by_cases hz : z = 0
          · obtain ⟨A4, c4, w14, hr14, ho14, hg14⟩ := rows_share HO.out (fun _ h => h) HBk.out.size HIF.out (by rw [HM.out]; omega)
            have hb14 : Below v9.heap.size v9 w14 := HBk.out.grown hg14 HBk.out.size fun r hr => (HO.out.block r hr).1
            rw [HM.out] at hr14 ho14
            have HR14 := Lib.hid hr14
            have HQ1 : Hid ((subsAt pa pb (xs.take (k + 1))).length = m + 1) := Lib.hid (by rw [HSN.out, if_pos hz]; simp [HM.out])
            have HQ2 : Hid (OwnT 25 v9.heap.size (fun q => q < v9.heap.size) w14 (.slice A4 (m + 1) c4) (subsAt pa pb (xs.take (k + 1)))) := Lib.hid (by rw [HSN.out, if_pos hz]; exact ho14)
            have HQ3 := Lib.hid hb14
            subst hz
            clear hr14 ho14 hg14 hb14
            go_wp2_with (first
              | ((with_reducible refine wpList_sel 121 ?_); refine wpList_val rfl (r_app (.tmp 115) (.tmp 120) 31 rfl rfl rfl HR14.out) ?_))
            go_roundw
            case rel => exact ⟨k + 1, m + 1, by go_num, by omega, A4, c4, rfl, HQ1, HQ2, HQ3⟩
            case measure => simp [intOf]; omega
          · have d1 : ((z : Int) == 0) = false := by rw [beq_eq_false_iff_ne]; omega
            have HQ1 : Hid (subsAt pa pb (xs.take (k + 1)) = subsAt pa pb (xs.take k)) := Lib.hid (by rw [HSN.out, if_neg hz, List.append_nil])
            rw [← HQ1.out] at HM HO
            clear hz x1
            go_wp2_with fail
            go_roundw
            case rel => exact ⟨k + 1, m, by go_num, by omega, Ao, co, rfl, HM, HO, HBk⟩
            case measure => simp [intOf]; omega
        · obtain rfl : k = xs.length := by omega
          rename World => wz
          have hBz := bl3 HB9.out HBk.out
          have HKW : Hid (∀ W, Below wz.heap.size wz W → Two W (.slice (some ⟨tb, 0, none⟩) 2 2) pa pb ∧ Tab W (.slice A acc.length c) acc ∧ W.heap[bx]? = some (.cells #[.int .i64 2, .slice A acc.length c] 40 (0, 0))) := Lib.hid fun W h => HKB.out W (bl3 hBz h)
          have HSW : Hid (∀ W, Below wz.heap.size wz W → Tab W (.slice Ao m co) (subsAt pa pb xs)) := Lib.hid fun W h => by
            have h2 := HO.out.tab
            rw [List.take_length] at h2
            exact kept_tab.below h2 h
          have HWW := Lib.hid (bl3 HW9.out HBk.out)
          have hWR := wds_rels HWM.out HAL.out HREL.out
          have HSAT : Hid (∀ W, Below wz.heap.size wz W → Calls Try.prog 66 #[.agg #[.int .i64 2, .slice A acc.length c], .slice (some ⟨tb, 0, none⟩) 2 2] W fun e w' => e = .returned (.tuple #[.bool true, .int .i64 0]) ∧ Below W.heap.size W w') := Lib.hid fun W h =>
            sat66_any W _ _ pa pb d acc ⟨hd1, hd6⟩ PA.out PB.out (HKW.out W h).1 (HKW.out W h).2.1 (hWR.pres ⟨by omega, by omega⟩ (by omega) (by omega)) hWR.ok (fun x hx j hj => by
              obtain ⟨n, -, -, -, h4⟩ := HREL.out j (by rw [← HAL.out]; exact hj)
              exact h4 x hx)
          obtain ⟨t, d1, m1, e1, hE1, he1, hT⟩ := maps_all hd1 PA.out PB.out HWM.out HAL.out HREL.out (wds_subs HWS.out) (subs_fix (a := pa) (b := pb) (l := xs))
          have HT := Lib.hid hT
          have hSS := wds_subs (a := pa) (b := pb) HWS.out
          have H32 := Lib.hid (enumS 2 acc (subsAt pa pb xs) 300 t d1 m1 e1 hE1 (fun j => by have := hSS.short j; omega) (by have := hSS.len; omega))
          have hm6 : m ≤ 6 := by
            rw [← HM.out]
            exact Nat.le_trans (List.length_filter_le _ _) (by rw [List.length_take]; omega)
          clear hBz hWR hE1 hT hSS HM HO HKB HX9 HN9 HB9 HW9 hlt hk hk0
          generalize subsAt pa pb xs = S at *
          generalize acc.length = al at *
          go_wp2_with (first
            | ((with_reducible refine wpList_sel 123 ?_); refine wpList_val rfl (r_loadAt 40 (.tmp 13) _ _ rfl rfl (load40 (HKW.out _ (Below.refl _ _)).2.2)) ?_))
          refine (HSAT.out _ (Below.refl _ _)).mono ?_
          rintro e v11 ⟨rfl, hb⟩
          have HB11 := Lib.hid hb
          clear hb
          go_wp2_with (first
            | ((with_reducible refine wpList_sel 135 ?_); refine wpList_val rfl (r_loadAt 40 (.tmp 13) _ _ rfl rfl (load40 (HKW.out _ HB11.out).2.2)) ?_))
          refine (H32.out _ _ _ (HKW.out _ HB11.out).2.1 (HSW.out _ HB11.out)).mono ?_
          rintro e v12 ⟨⟨u12, rfl, ht⟩, hb⟩
          obtain ⟨A12, c12, rfl⟩ := Tab.form ht
          have hal := (Below.refl v12.heap.size v12).alloc (Nat.le_refl _) (.cells #[.int .i64 d1, .int .i64 m1, .int .i64 0] 49)
          have HB13 := Lib.hid (bl3 (bl3 HB11.out hb) hal)
          have HT13 := Lib.hid (kept_tab.below ht hal)
          clear hal hb ht HSAT H32 HSW
          rcases he1 with rfl | rfl
          · go_wp2_with fail
            go_ret
            exact ⟨rfl, bl3 HWW.out HB13.out⟩
          obtain ⟨hMT, hn2⟩ := HT.out rfl
          have hn1 := hMT.full.good.n1
          have hn1' : 1 ≤ (t.length : Int) := by omega
          have hn2' : (t.length : Int) ≤ 300 := by omega
          have hck : check 2 t = (0, -1) := check_of_good hMT.full.good
          have hcp := complete_full hMT.full
          have H44 : Hid (∀ W v, Tab W v t → Calls Try.prog 44 #[.int .i64 2, v] W fun e w' => e = .returned (.tuple #[.int .i64 0, .int .i64 (-1)]) ∧ ∃ q, w' = W.drewN q) := Lib.hid fun W v h => (check44_any W v 2 t h).mono fun e w' (⟨h1, h2⟩ : CheckPostQ 2 t W e w') => by
            rw [hck] at h1
            exact ⟨h1, h2⟩
          have H46 : Hid (∀ W v, Tab W v t → Calls Try.prog 46 #[v] W fun e w' => e = .returned (.bool true) ∧ ∃ q, w' = W.drewN q) := Lib.hid fun W v h => (complete46_any W v t h).mono fun e w' ⟨h1, h2⟩ => by
            rw [hcp] at h1
            exact ⟨h1, h2⟩
          have H50 : Hid (∀ W v, Tab W v t → Calls Try.prog 50 #[.int .i64 2, v] W fun e w' => (∃ A c, e = .returned (.tuple #[.slice A t.length c, .int .i64 0]) ∧ TabB W.heap.size w' (.slice A t.length c) (reps t)) ∧ Below W.heap.size W w') := Lib.hid fun W v h =>
            (reps50_any W v 2 t h).mono fun e w' (⟨⟨u, h5, h6⟩, h7⟩ : RepsPost 2 t W e w') => by
              rw [hMT.reps] at h5 h6
              obtain ⟨A', c', rfl⟩ := Tab.form h6.at_
              rw [hMT.len] at h5 h6
              exact ⟨⟨A', c', h5, h6⟩, h7⟩
          have HOK := Lib.hid hMT.ok
          have HRL := Lib.hid hMT.len
          have hrow : ∀ i, i < t.length → (t.getD i []).length = 4 := fun i hi => hMT.full.good.len i hi
          have HROW := Lib.hid hrow
          obtain ⟨f, hf⟩ : ∃ f : Nat → Nat, ∀ i, f i = actW (act2 pa pb) 0 ((reps t).getD i []) := ⟨_, fun _ => rfl⟩
          have HF := Lib.hid hf
          have HLT : Hid (∀ i, i < t.length → f i < d) := Lib.hid fun i hi => by rw [hf]; exact hMT.lt i hi
          have HED : Hid (∀ i c, i < t.length → c < 4 → ∃ s, s < t.length ∧ t.at i c = (s : Int) ∧ f s = act2 pa pb (f i) c) := Lib.hid fun i c hi hc => by
            obtain ⟨s, h1, h2, h3⟩ := hMT.edge i c hi hc
            exact ⟨s, h1, h2, by rw [hf, hf]; exact h3⟩
          clear hMT hn1 hn2 hck hcp hf hrow HT
          generalize reps t = R at *
          go_wp2_with fail
          generalize hv13 : v12.alloc (.cells #[.int .i64 d1, .int .i64 m1, .int .i64 0] 49) = v13 at *
          generalize v12.heap.size = st13 at *
          clear hv13
          refine (H44.out _ _ HT13.out).mono ?_
          rintro e v14 ⟨rfl, q14, hv14⟩
          have HB14 : Hid (Below v13.heap.size v13 v14) := Lib.hid (by rw [hv14]; exact below_drewN (Below.refl _ _) _)
          clear hv14
          go_wp2_with fail
          refine (H46.out _ _ (kept_tab.below HT13.out HB14.out)).mono ?_
          rintro e v15 ⟨rfl, q15, hv15⟩
          have hb15 : Below v14.heap.size v14 v15 := by rw [hv15]; exact below_drewN (Below.refl _ _) _
          have HB15 := Lib.hid (bl3 HB14.out hb15)
          clear hv15 hb15 HB14 H44 H46
          have x0 := make24r v15 t.length (by omega)
          have hal := (Below.refl v15.heap.size v15).alloc (Nat.le_refl _) (.cells (Array.replicate t.length (.int .i64 0)) 3)
          have hnew := heap_alloc_new v15 (.cells (Array.replicate t.length (.int .i64 0)) 3)
          have hlt16 : v15.heap.size < (v15.alloc (.cells (Array.replicate t.length (.int .i64 0)) 3)).heap.size := by simp
          have HT16 := Lib.hid (kept_tab.below (kept_tab.below HT13.out HB15.out) hal)
          have HB16 := Lib.hid hal
          have HNW := Lib.hid hnew
          have HLT16 := Lib.hid hlt16
          clear hal hnew hlt16
          go_wp2_with fail
          clear x0
          generalize v15.alloc (.cells (Array.replicate t.length (.int .i64 0)) 3) = v16 at *
          refine (H50.out _ _ HT16.out).mono ?_
          rintro e v17 ⟨⟨A17, c17, rfl, htB⟩, hb⟩
          have hb17 := bl3 HB16.out hb
          have hw15 := bl3 HB13.out HB15.out
          have HQ : Hid (∀ W : World, (∀ k, k < v17.heap.size → k ≠ v15.heap.size → W.heap[k]? = v17.heap[k]?) → Two W (.slice (some ⟨tb, 0, none⟩) 2 2) pa pb ∧ Tab W (.slice A12 t.length c12) t ∧ Tab W (.slice A17 t.length c17) R) := Lib.hid fun W h => by
            have hlow : ∀ k, k < v15.heap.size → W.heap[k]? = v15.heap[k]? := fun k hk => (h k (Nat.lt_of_lt_of_le hk hb17.size) (by omega)).trans (hb17.block k hk)
            refine ⟨kept_tab _ _ _ _ hlow (HKW.out _ hw15).1, kept_tab _ _ _ _ hlow (kept_tab.below HT13.out HB15.out), htB W fun k h1 h2 => h k h2 ?_⟩
            have := HLT16.out
            omega
          have HPS : Hid (PtS v17 v15.heap.size (ptRow f t.length 0) v17) := Lib.hid (PtS.start ((hb.block _ HLT16.out).trans HNW.out))
          have HWP : Hid (Below w.heap.size w v17 ∧ w.heap.size ≤ v15.heap.size) := Lib.hid ⟨bl3 HWW.out (bl3 hw15 hb17), (bl3 HWW.out hw15).size⟩
          clear htB hb hb17 hw15 HB13 HB15 HT13 HT16 HB16 HNW HLT16 HKW HWW H50
          generalize v15.heap.size = gp at *
          have hd0 : (0 : Int) < (d : Int) := by omega
          go_wp2_with fail
          go_loopw [30] (fun i wr => ∃ k : Nat, i = .int .i64 (k : Int) ∧ k ≤ t.length ∧ Hid (PtS v17 gp (ptRow f t.length k) wr)) (fun i _ => t.length - (intOf i).toNat)
          case atStart => exact ⟨0, rfl, Nat.zero_le _, HPS⟩
          case round =>
            obtain ⟨k, rfl, hk, HP⟩ := hrel
            have hk0 : (0 : Int) ≤ (k : Int) := Int.natCast_nonneg _
            obtain ⟨hq1, hq2, hq3⟩ := HQ.out wr (fun q _ h => HP.out.oth q h)
            by_cases hlt : k < t.length
            · have hlt' : (k : Int) < (t.length : Int) := by omega
              obtain ⟨Aq, cq, eq, -, -, hcc⟩ := LAt.open_ hq3
              rw [HRL.out] at eq hcc
              obtain ⟨b17, o17, rfl, hrw⟩ := (by obtain ⟨rfl, -, rfl⟩ := Value.slice.inj eq; exact hcc (by omega) : ∃ b off, A17 = some ⟨b, off, none⟩ ∧ ∀ k, k < t.length → ∃ u, wr.cell? ⟨b, off + k, none⟩ = some u ∧ IntsAt wr u (R.getD k []))
              obtain ⟨u, x1, hi⟩ := hrw k hlt
              obtain ⟨Au, cu, rfl, -, -, -⟩ := hi.open_
              have H67 := Lib.hid (fits67_any wr _ _ hi (HOK.out k))
              have h65 := img65_any wr _ _ pa pb d 0 _ ⟨hd1, hd6⟩ PA.out PB.out hq1 hi (by omega) (HOK.out k)
              rw [← HF.out k] at h65
              have H65 := Lib.hid h65
              have x2 := HP.out.at_ (k := k) (by rw [length_ptRow]; exact hlt)
              have x3 := frozen_row HP.out.blk k
              have HN : Hid (PtS v17 gp (ptRow f t.length (k + 1)) (wr.setCell ⟨gp, k, none⟩ (.int .i64 ((f k : Nat) : Int)))) := Lib.hid (by rw [← ptRow_set hlt]; exact HP.out.set _)
              clear HP hq1 hq2 hq3 hcc eq hrw hi h65
              generalize R.getD k [] = row at *
              go_wp2_with fail
              refine H67.out.mono ?_
              rintro e v18 ⟨rfl, rfl⟩
              go_wp2_with fail
              refine H65.out.mono ?_
              rintro e v19 ⟨rfl, rfl⟩
              go_wp2_with fail
              go_roundw
              case rel => exact ⟨k + 1, by go_num, by omega, HN⟩
              case measure => simp [intOf]; omega
            · obtain rfl : k = t.length := by omega
              rename World => wy
              have HY : Hid (∀ W, Below wy.heap.size wy W → Two W (.slice (some ⟨tb, 0, none⟩) 2 2) pa pb ∧ Tab W (.slice A12 t.length c12) t ∧ ∀ i, i < t.length → W.cell? ⟨gp, i, none⟩ = some (.int .i64 ((f i : Nat) : Int))) := Lib.hid fun W h => by
                have hs := HP.out.sz
                obtain ⟨h1, h2, -⟩ := HQ.out W (fun q hq hn => (h.block q (by omega)).trans (HP.out.oth q hn))
                refine ⟨h1, h2, fun i hi => ?_⟩
                have h4 := HP.out.at_ (k := i) (by rw [length_ptRow]; exact hi)
                rw [ptRow_get hi hi] at h4
                exact (h.cell (p := ⟨gp, i, none⟩) (World.block_lt_of_cell? wy _ h4)).trans h4
              have HWY : Hid (Below w.heap.size w wy) := Lib.hid (HP.out.below HWP.out.1 HWP.out.2)
              obtain ⟨Aq, cq, eq, -, -, hcc⟩ := LAt.open_ (HY.out _ (Below.refl _ _)).2.1
              obtain ⟨bt, ot, rfl, hrw⟩ := (by obtain ⟨rfl, -, rfl⟩ := Value.slice.inj eq; exact hcc (by omega) : ∃ b off, A12 = some ⟨b, off, none⟩ ∧ ∀ k, k < t.length → ∃ u, wy.cell? ⟨b, off + k, none⟩ = some u ∧ IntsAt wy u (t.getD k []))
              have HRW := Lib.hid hrw
              clear HP hq1 hq2 hq3 HQ HWP HPS hcc eq hrw
              go_wp2_with fail
              go_loopw [31] (fun i wr => ∃ k : Nat, i = .int .i64 (k : Int) ∧ k ≤ t.length ∧ Hid (Below wy.heap.size wy wr)) (fun i _ => t.length - (intOf i).toNat)
              case atStart => exact ⟨0, rfl, Nat.zero_le _, Lib.hid (Below.refl _ _)⟩
              case round =>
                obtain ⟨i, rfl, hi, HBi⟩ := hrel
                have hi0 : (0 : Int) ≤ (i : Int) := Int.natCast_nonneg _
                by_cases hlt : i < t.length
                · have hlt' : (i : Int) < (t.length : Int) := by omega
                  obtain ⟨u, hu, hiu⟩ := HRW.out i hlt
                  obtain ⟨Ar, cr, rfl, -, -, hcu⟩ := hiu.open_
                  have hr4 := HROW.out i hlt
                  obtain ⟨br, orr, rfl, hcell⟩ := hcu (by rw [hr4]; omega)
                  rw [hr4] at hu hcell
                  have HRI := Lib.hid hu
                  have HCI := Lib.hid hcell
                  clear hu hiu hcu hcell hr4
                  go_wp2_with fail
                  go_loopw [32] (fun x wr => ∃ j : Nat, x = .int .i64 (j : Int) ∧ 1 ≤ j ∧ j ≤ 3 ∧ Hid (Below wy.heap.size wy wr)) (fun x _ => 3 - (intOf x).toNat)
                  case atStart => exact ⟨1, rfl, by omega, by omega, HBi⟩
                  case round =>
                    obtain ⟨x, rfl, hx1, hx3, HBx⟩ := hrel
                    have hx0 : (1 : Int) ≤ (x : Int) := by omega
                    by_cases hx2 : x ≤ 2
                    · have hx2' : (x : Int) ≤ 2 := by omega
                      obtain ⟨c0, hc0⟩ : ∃ c0 : Nat, c0 + 2 = 2 * x := ⟨2 * x - 2, by omega⟩
                      obtain ⟨s0, p1, p2, p3⟩ := HED.out i c0 hlt (by omega)
                      obtain ⟨s1, r1, r2, r3⟩ := HED.out i (c0 + 1) hlt (by omega)
                      have hLi := HLT.out i hlt
                      have H65a : Hid (∀ W, Below wy.heap.size wy W → ∀ v, IntsAt W v [(x : Int)] → Calls Try.prog 65 #[.slice (some ⟨tb, 0, none⟩) 2 2, .int .i64 ((f i : Nat) : Int), v] W fun e w' => e = .returned (.int .i64 ((f s0 : Nat) : Int)) ∧ w' = W) := Lib.hid fun W h v hv => by
                        have h5 := img65_any W _ v pa pb d (f i) [(x : Int)] ⟨hd1, hd6⟩ PA.out PB.out (HY.out W h).1 hv hLi (fun y hy => by rw [List.mem_singleton.1 hy]; omega)
                        have e : actW (act2 pa pb) (f i) [(x : Int)] = f s0 := by
                          rw [p3]
                          show act2 pa pb (f i) (col (x : Int)) = _
                          congr 1
                          unfold col
                          rw [if_pos (by omega)]
                          omega
                        rwa [e] at h5
                      have H65b : Hid (∀ W, Below wy.heap.size wy W → ∀ v, IntsAt W v [-(x : Int)] → Calls Try.prog 65 #[.slice (some ⟨tb, 0, none⟩) 2 2, .int .i64 ((f i : Nat) : Int), v] W fun e w' => e = .returned (.int .i64 ((f s1 : Nat) : Int)) ∧ w' = W) := Lib.hid fun W h v hv => by
                        have h5 := img65_any W _ v pa pb d (f i) [-(x : Int)] ⟨hd1, hd6⟩ PA.out PB.out (HY.out W h).1 hv hLi (fun y hy => by rw [List.mem_singleton.1 hy]; omega)
                        have e : actW (act2 pa pb) (f i) [-(x : Int)] = f s1 := by
                          rw [r3]
                          show act2 pa pb (f i) (col (-(x : Int))) = _
                          congr 1
                          unfold col
                          rw [if_neg (by omega)]
                          omega
                        rwa [e] at h5
                      have HFX : Hid (Fits [(x : Int)] ∧ Fits [-(x : Int)]) := Lib.hid ⟨fun y hy => by rw [List.mem_singleton.1 hy]; omega, fun y hy => by rw [List.mem_singleton.1 hy]; omega⟩
                      have HSX : Hid (s0 < t.length ∧ s1 < t.length) := Lib.hid ⟨p1, r1⟩
                      have HCX : Hid (∀ W, Below wy.heap.size wy W → W.cell? ⟨bt, ot + i, none⟩ = some (.slice (some ⟨br, orr, none⟩) 4 cr) ∧ W.cell? ⟨br, orr + c0, none⟩ = some (.int .i64 (s0 : Int)) ∧ W.cell? ⟨br, orr + (c0 + 1), none⟩ = some (.int .i64 (s1 : Int)) ∧ W.cell? ⟨gp, 0 + s0, none⟩ = some (.int .i64 ((f s0 : Nat) : Int)) ∧ W.cell? ⟨gp, 0 + s1, none⟩ = some (.int .i64 ((f s1 : Nat) : Int)) ∧ W.cell? ⟨gp, 0 + i, none⟩ = some (.int .i64 ((f i : Nat) : Int))) := Lib.hid fun W h => by
                        have q1 := HCI.out c0 (by omega)
                        have q2 := HCI.out (c0 + 1) (by omega)
                        have e1 : (t.getD i []).getD c0 0 = (s0 : Int) := p2
                        have e2 : (t.getD i []).getD (c0 + 1) 0 = (s1 : Int) := r2
                        rw [e1] at q1
                        rw [e2] at q2
                        have hp := (HY.out W h).2.2
                        rw [Nat.zero_add, Nat.zero_add, Nat.zero_add]
                        exact ⟨(h.cell (p := ⟨bt, ot + i, none⟩) (World.block_lt_of_cell? wy _ HRI.out)).trans HRI.out, (h.cell (p := ⟨br, orr + c0, none⟩) (World.block_lt_of_cell? wy _ q1)).trans q1, (h.cell (p := ⟨br, orr + (c0 + 1), none⟩) (World.block_lt_of_cell? wy _ q2)).trans q2, hp s0 p1, hp s1 r1, hp i hlt⟩
                      clear p1 p2 p3 r1 r2 r3 hLi
                      go_wp2_with fail
                      refine (wpIn_wide (n := 3)).1 ?_
                      refine wpIn_region_own (by kernel_rfl) 45 rfl (fun i => ([some 208, some 209, some 210, some 211, some 212, some 213, some 214, some 215, some 216, some 217, some 218, some 219, some 220, some 221, some 222, some 223, some 224, some 225, some 226, some 227, some 228, some 229, some 230, some 231, some 232, some 233, some 234, some 235, some 236, some 237, some 238, some 239, some 240, some 241, some 242, some 243, some 244, some 245, some 246, some 247, some 248, some 249, some 250, some 251, some 252] : List (Option Nat)).getD i none) (lex_of (by kernel_rfl)) wr.heap.size (fun i => ([] : List Nat).contains i) (fun i j => (([[], [], [], [1, 2], [3], [], [5], [6], [4, 7], [8], [0, 9], [10], [], [], [], [13, 14], [15], [], [17], [12, 16, 18], [11, 19], [20], [21], [21], [21], [23, 24, 21], [25, 21], [21], [27, 21], [28, 21], [26, 29, 21], [30, 21], [22, 31, 21], [32, 21], [21], [21], [21], [35, 36, 21], [37, 21], [21], [39, 21], [40, 21], [34, 38, 41, 21], [33, 42, 21], [21, 43]] : List (List Nat)).getD i []).contains j) (fun W => Below wr.heap.size wr W) (fun j v O W => (([.eq (.slice (some ⟨gp, 0, none⟩) t.length t.length), .eq (.slice (some ⟨bt, ot, none⟩) t.length c12), .eq (.int .i64 (i : Int)), .eq (.pointer (some ⟨bt, ot + i, none⟩)), .eq (.slice (some ⟨br, orr, none⟩) 4 cr), .eq (.int .i64 (x : Int)), .eq (.int .i64 (2 * (x : Int))), .eq (.int .i64 ((c0 : Nat) : Int)), .eq (.pointer (some ⟨br, orr + (c0), none⟩)), .eq (.int .i64 (s0 : Int)), .eq (.pointer (some ⟨gp, 0 + s0, none⟩)), .eq (.int .i64 ((f s0 : Nat) : Int)), .eq (.slice (some ⟨tb, 0, none⟩) 2 2), .eq (.slice (some ⟨gp, 0, none⟩) t.length t.length), .eq (.int .i64 (i : Int)), .eq (.pointer (some ⟨gp, 0 + i, none⟩)), .eq (.int .i64 ((f i : Nat) : Int)), .eq (.int .i64 (x : Int)), .ints [(x : Int)], .eq (.int .i64 ((f s0 : Nat) : Int)), .eq (.bool false), .eq (.bool false), .eq (.slice (some ⟨gp, 0, none⟩) t.length t.length), .eq (.slice (some ⟨bt, ot, none⟩) t.length c12), .eq (.int .i64 (i : Int)), .eq (.pointer (some ⟨bt, ot + i, none⟩)), .eq (.slice (some ⟨br, orr, none⟩) 4 cr), .eq (.int .i64 (x : Int)), .eq (.int .i64 (2 * (x : Int))), .eq (.int .i64 ((c0 + 1 : Nat) : Int)), .eq (.pointer (some ⟨br, orr + (c0 + 1), none⟩)), .eq (.int .i64 (s1 : Int)), .eq (.pointer (some ⟨gp, 0 + s1, none⟩)), .eq (.int .i64 ((f s1 : Nat) : Int)), .eq (.slice (some ⟨tb, 0, none⟩) 2 2), .eq (.slice (some ⟨gp, 0, none⟩) t.length t.length), .eq (.int .i64 (i : Int)), .eq (.pointer (some ⟨gp, 0 + i, none⟩)), .eq (.int .i64 ((f i : Nat) : Int)), .eq (.int .i64 (x : Int)), .eq (.int .i64 (-(x : Int))), .ints [-(x : Int)], .eq (.int .i64 ((f s1 : Nat) : Int)), .eq (.bool false), .eq (.bool false)] : List FP).getD j FP.any).holds wr.heap.size v O W) (by kernel_rfl) (by kernel_rfl) (dm_inj (by kernel_rfl)) (fun j v O W W' _ _ h hs h1 h2 => FP.keep rfl h1 h2 hs h) (dm_lt (n := 254) (by kernel_rfl)) (Nat.le_refl _) (Below.refl _ _).drew ?_ ?_
                      · intro O ls q o a w2 hq ho hS hbw hls hP hpre hdj
                        have hcases : q = 0 ∨ q = 1 ∨ q = 2 ∨ q = 3 ∨ q = 4 ∨ q = 5 ∨ q = 6 ∨ q = 7 ∨ q = 8 ∨ q = 9 ∨ q = 10 ∨ q = 11 ∨ q = 12 ∨ q = 13 ∨ q = 14 ∨ q = 15 ∨ q = 16 ∨ q = 17 ∨ q = 18 ∨ q = 19 ∨ q = 20 ∨ q = 21 ∨ q = 22 ∨ q = 23 ∨ q = 24 ∨ q = 25 ∨ q = 26 ∨ q = 27 ∨ q = 28 ∨ q = 29 ∨ q = 30 ∨ q = 31 ∨ q = 32 ∨ q = 33 ∨ q = 34 ∨ q = 35 ∨ q = 36 ∨ q = 37 ∨ q = 38 ∨ q = 39 ∨ q = 40 ∨ q = 41 ∨ q = 42 ∨ q = 43 ∨ q = 44 := by
                          have : q < 45 := hq
                          omega
                        rcases hcases with rfl | rfl | rfl | rfl | rfl | rfl | rfl | rfl | rfl | rfl | rfl | rfl | rfl | rfl | rfl | rfl | rfl | rfl | rfl | rfl | rfl | rfl | rfl | rfl | rfl | rfl | rfl | rfl | rfl | rfl | rfl | rfl | rfl | rfl | rfl | rfl | rfl | rfl | rfl | rfl | rfl | rfl | rfl | rfl | rfl
                        · obtain rfl := Option.some.inj ho
                          exact wpOpIn_of rfl rfl (wpW_val (r_move (.tmp 27) rfl (hP.out 27 (dm_out (by kernel_rfl)))) ⟨_, _, rfl, hS, (fun h => by simp at h), Step.same, rfl⟩)
                        · obtain rfl := Option.some.inj ho
                          exact wpOpIn_of rfl rfl (wpW_val (r_move (.tmp 23) rfl (hP.out 23 (dm_out (by kernel_rfl)))) ⟨_, _, rfl, hS, (fun h => by simp at h), Step.same, rfl⟩)
                        · obtain rfl := Option.some.inj ho
                          exact wpOpIn_of rfl rfl (wpW_val (r_move (.tmp 31) rfl (hP.out 31 (dm_out (by kernel_rfl)))) ⟨_, _, rfl, hS, (fun h => by simp at h), Step.same, rfl⟩)
                        · obtain rfl := Option.some.inj ho
                          exact wpOpIn_of rfl rfl (wpW_val (r_idx (.tmp 209) (.tmp 210) _ _ rfl (hpre 1 (by decide) rfl).1 (hpre 2 (by decide) rfl).1 (idx_offs Try.underlying23 size24 bt ot t.length c12 i hlt _)) ⟨_, _, rfl, hS, (fun h => by simp at h), Step.same, rfl⟩)
                        · obtain rfl := Option.some.inj ho
                          exact wpOpIn_of rfl rfl (wpW_val (r_load1 24 agg24 (.tmp 211) ⟨bt, ot + i, none⟩ rfl (hpre 3 (by decide) rfl).1 (HCX.out _ (bl3 HBx.out hS)).1) ⟨_, _, rfl, hS, (fun h => by simp at h), Step.same, rfl⟩)
                        · obtain rfl := Option.some.inj ho
                          exact wpOpIn_of rfl rfl (wpW_val (r_move (.tmp 32) rfl (hP.out 32 (dm_out (by kernel_rfl)))) ⟨_, _, rfl, hS, (fun h => by simp at h), Step.same, rfl⟩)
                        · obtain rfl := Option.some.inj ho
                          exact wpOpIn_of rfl rfl (wpW_val (r_mul2 (.tmp 213) x (by omega) rfl (hpre 5 (by decide) rfl).1) ⟨_, _, rfl, hS, (fun h => by simp at h), Step.same, rfl⟩)
                        · obtain rfl := Option.some.inj ho
                          exact wpOpIn_of rfl rfl (wpW_val (r_sub (.tmp 214) (2 * (x : Int)) 2 _ (by omega) (by omega) rfl (hpre 6 (by decide) rfl).1) ⟨_, _, rfl, hS, (fun h => by simp at h), Step.same, rfl⟩)
                        · obtain rfl := Option.some.inj ho
                          exact wpOpIn_of rfl rfl (wpW_val (r_idx (.tmp 212) (.tmp 215) _ _ rfl (hpre 4 (by decide) rfl).1 (hpre 7 (by decide) rfl).1 (idx_offs Try.underlying24 size3 br orr 4 cr (c0) (by omega) _)) ⟨_, _, rfl, hS, (fun h => by simp at h), Step.same, rfl⟩)
                        · obtain rfl := Option.some.inj ho
                          exact wpOpIn_of rfl rfl (wpW_val (r_load1 3 agg3 (.tmp 216) ⟨br, orr + c0, none⟩ rfl (hpre 8 (by decide) rfl).1 (HCX.out _ (bl3 HBx.out hS)).2.1) ⟨_, _, rfl, hS, (fun h => by simp at h), Step.same, rfl⟩)
                        · obtain rfl := Option.some.inj ho
                          exact wpOpIn_of rfl rfl (wpW_val (r_idx (.tmp 208) (.tmp 217) _ _ rfl (hpre 0 (by decide) rfl).1 (hpre 9 (by decide) rfl).1 (idx_offs Try.underlying24 size3 gp 0 t.length t.length s0 HSX.out.1 _)) ⟨_, _, rfl, hS, (fun h => by simp at h), Step.same, rfl⟩)
                        · obtain rfl := Option.some.inj ho
                          exact wpOpIn_of rfl rfl (wpW_val (r_load1 3 agg3 (.tmp 218) ⟨gp, 0 + s0, none⟩ rfl (hpre 10 (by decide) rfl).1 (HCX.out _ (bl3 HBx.out hS)).2.2.2.1) ⟨_, _, rfl, hS, (fun h => by simp at h), Step.same, rfl⟩)
                        · obtain rfl := Option.some.inj ho
                          exact wpOpIn_of rfl rfl (wpW_val (r_move (.tmp 12) rfl (hP.out 12 (dm_out (by kernel_rfl)))) ⟨_, _, rfl, hS, (fun h => by simp at h), Step.same, rfl⟩)
                        · obtain rfl := Option.some.inj ho
                          exact wpOpIn_of rfl rfl (wpW_val (r_move (.tmp 27) rfl (hP.out 27 (dm_out (by kernel_rfl)))) ⟨_, _, rfl, hS, (fun h => by simp at h), Step.same, rfl⟩)
                        · obtain rfl := Option.some.inj ho
                          exact wpOpIn_of rfl rfl (wpW_val (r_move (.tmp 31) rfl (hP.out 31 (dm_out (by kernel_rfl)))) ⟨_, _, rfl, hS, (fun h => by simp at h), Step.same, rfl⟩)
                        · obtain rfl := Option.some.inj ho
                          exact wpOpIn_of rfl rfl (wpW_val (r_idx (.tmp 221) (.tmp 222) _ _ rfl (hpre 13 (by decide) rfl).1 (hpre 14 (by decide) rfl).1 (idx_offs Try.underlying24 size3 gp 0 t.length t.length i hlt _)) ⟨_, _, rfl, hS, (fun h => by simp at h), Step.same, rfl⟩)
                        · obtain rfl := Option.some.inj ho
                          exact wpOpIn_of rfl rfl (wpW_val (r_load1 3 agg3 (.tmp 223) ⟨gp, 0 + i, none⟩ rfl (hpre 15 (by decide) rfl).1 (HCX.out _ (bl3 HBx.out hS)).2.2.2.2.2) ⟨_, _, rfl, hS, (fun h => by simp at h), Step.same, rfl⟩)
                        · obtain rfl := Option.some.inj ho
                          exact wpOpIn_of rfl rfl (wpW_val (r_move (.tmp 32) rfl (hP.out 32 (dm_out (by kernel_rfl)))) ⟨_, _, rfl, hS, (fun h => by simp at h), Step.same, rfl⟩)
                        · obtain rfl := Option.some.inj ho
                          have hal : Below w2.heap.size w2 (w2.alloc (.cells #[.int .i64 ((x : Int))] 3)) := (Below.refl _ _).alloc (Nat.le_refl _) _
                          exact wpOpIn_of rfl rfl (wpW_val (r_bs1 (.tmp 225) ((x : Int)) rfl (hpre 17 (by decide) rfl).1) ⟨_, _, rfl, hS.trans (hal.mono hS.size), (fun h => by simp at h), Step.below hal, ints_one_new HFX.out.1⟩)
                        · obtain rfl := Option.some.inj ho
                          obtain ⟨A, q, e6, i6⟩ := (hpre 18 (by decide) rfl).1
                          exact wpOpIn_of rfl rfl (wpW_call (R := fun v w' => v = .int .i64 ((f s0 : Nat) : Int) ∧ w' = w2) (r_call3 (.tmp 220) (.tmp 224) (.tmp 226) _ _ _ _ rfl (hpre 12 (by decide) rfl).1 (hpre 16 (by decide) rfl).1 e6 call65) ((H65a.out w2 (bl3 HBx.out hS) _ i6.at_).mono fun e w' ⟨he, hb⟩ => ⟨_, he, rfl, hb⟩)
                              (fun v w'' ⟨hv, hb⟩ => (by subst hb; exact ⟨v, _, rfl, hS, (fun h => by simp at h), Step.same, hv⟩)))
                        · obtain rfl := Option.some.inj ho
                          exact wpOpIn_of rfl rfl (wpW_val (r_ne_same (.tmp 219) (.tmp 227) _ rfl (hpre 11 (by decide) rfl).1 (hpre 19 (by decide) rfl).1) ⟨_, _, rfl, hS, (fun h => by simp at h), Step.same, rfl⟩)
                        · obtain rfl := Option.some.inj ho
                          exact wpOpIn_of rfl rfl (wpW_val (r_move (.tmp 228) rfl (hpre 20 (by decide) rfl).1) ⟨_, _, rfl, hS, (fun h => by simp at h), Step.same, rfl⟩)
                        · obtain rfl := Option.some.inj ho
                          exact wpOpIn_yes rfl rfl (yielded_of (g := 21) (t := 229) (b := false) rfl rfl (by rw [hP.size]; show 229 < 254; decide) (hpre 21 (by decide) rfl).1) (wpW_val (r_move (.tmp 27) rfl (hP.out 27 (dm_out (by kernel_rfl)))) ⟨_, _, rfl, hS, (fun h => by simp at h), Step.same, rfl⟩)
                        · obtain rfl := Option.some.inj ho
                          exact wpOpIn_yes rfl rfl (yielded_of (g := 21) (t := 229) (b := false) rfl rfl (by rw [hP.size]; show 229 < 254; decide) (hpre 21 (by decide) rfl).1) (wpW_val (r_move (.tmp 23) rfl (hP.out 23 (dm_out (by kernel_rfl)))) ⟨_, _, rfl, hS, (fun h => by simp at h), Step.same, rfl⟩)
                        · obtain rfl := Option.some.inj ho
                          exact wpOpIn_yes rfl rfl (yielded_of (g := 21) (t := 229) (b := false) rfl rfl (by rw [hP.size]; show 229 < 254; decide) (hpre 21 (by decide) rfl).1) (wpW_val (r_move (.tmp 31) rfl (hP.out 31 (dm_out (by kernel_rfl)))) ⟨_, _, rfl, hS, (fun h => by simp at h), Step.same, rfl⟩)
                        · obtain rfl := Option.some.inj ho
                          exact wpOpIn_yes rfl rfl (yielded_of (g := 21) (t := 229) (b := false) rfl rfl (by rw [hP.size]; show 229 < 254; decide) (hpre 21 (by decide) rfl).1) (wpW_val (r_idx (.tmp 231) (.tmp 232) _ _ rfl (hpre 23 (by decide) rfl).1 (hpre 24 (by decide) rfl).1 (idx_offs Try.underlying23 size24 bt ot t.length c12 i hlt _)) ⟨_, _, rfl, hS, (fun h => by simp at h), Step.same, rfl⟩)
                        · obtain rfl := Option.some.inj ho
                          exact wpOpIn_yes rfl rfl (yielded_of (g := 21) (t := 229) (b := false) rfl rfl (by rw [hP.size]; show 229 < 254; decide) (hpre 21 (by decide) rfl).1) (wpW_val (r_load1 24 agg24 (.tmp 233) ⟨bt, ot + i, none⟩ rfl (hpre 25 (by decide) rfl).1 (HCX.out _ (bl3 HBx.out hS)).1) ⟨_, _, rfl, hS, (fun h => by simp at h), Step.same, rfl⟩)
                        · obtain rfl := Option.some.inj ho
                          exact wpOpIn_yes rfl rfl (yielded_of (g := 21) (t := 229) (b := false) rfl rfl (by rw [hP.size]; show 229 < 254; decide) (hpre 21 (by decide) rfl).1) (wpW_val (r_move (.tmp 32) rfl (hP.out 32 (dm_out (by kernel_rfl)))) ⟨_, _, rfl, hS, (fun h => by simp at h), Step.same, rfl⟩)
                        · obtain rfl := Option.some.inj ho
                          exact wpOpIn_yes rfl rfl (yielded_of (g := 21) (t := 229) (b := false) rfl rfl (by rw [hP.size]; show 229 < 254; decide) (hpre 21 (by decide) rfl).1) (wpW_val (r_mul2 (.tmp 235) x (by omega) rfl (hpre 27 (by decide) rfl).1) ⟨_, _, rfl, hS, (fun h => by simp at h), Step.same, rfl⟩)
                        · obtain rfl := Option.some.inj ho
                          exact wpOpIn_yes rfl rfl (yielded_of (g := 21) (t := 229) (b := false) rfl rfl (by rw [hP.size]; show 229 < 254; decide) (hpre 21 (by decide) rfl).1) (wpW_val (r_sub (.tmp 236) (2 * (x : Int)) 1 _ (by omega) (by omega) rfl (hpre 28 (by decide) rfl).1) ⟨_, _, rfl, hS, (fun h => by simp at h), Step.same, rfl⟩)
                        · obtain rfl := Option.some.inj ho
                          exact wpOpIn_yes rfl rfl (yielded_of (g := 21) (t := 229) (b := false) rfl rfl (by rw [hP.size]; show 229 < 254; decide) (hpre 21 (by decide) rfl).1) (wpW_val (r_idx (.tmp 234) (.tmp 237) _ _ rfl (hpre 26 (by decide) rfl).1 (hpre 29 (by decide) rfl).1 (idx_offs Try.underlying24 size3 br orr 4 cr (c0 + 1) (by omega) _)) ⟨_, _, rfl, hS, (fun h => by simp at h), Step.same, rfl⟩)
                        · obtain rfl := Option.some.inj ho
                          exact wpOpIn_yes rfl rfl (yielded_of (g := 21) (t := 229) (b := false) rfl rfl (by rw [hP.size]; show 229 < 254; decide) (hpre 21 (by decide) rfl).1) (wpW_val (r_load1 3 agg3 (.tmp 238) ⟨br, orr + (c0 + 1), none⟩ rfl (hpre 30 (by decide) rfl).1 (HCX.out _ (bl3 HBx.out hS)).2.2.1) ⟨_, _, rfl, hS, (fun h => by simp at h), Step.same, rfl⟩)
                        · obtain rfl := Option.some.inj ho
                          exact wpOpIn_yes rfl rfl (yielded_of (g := 21) (t := 229) (b := false) rfl rfl (by rw [hP.size]; show 229 < 254; decide) (hpre 21 (by decide) rfl).1) (wpW_val (r_idx (.tmp 230) (.tmp 239) _ _ rfl (hpre 22 (by decide) rfl).1 (hpre 31 (by decide) rfl).1 (idx_offs Try.underlying24 size3 gp 0 t.length t.length s1 HSX.out.2 _)) ⟨_, _, rfl, hS, (fun h => by simp at h), Step.same, rfl⟩)
                        · obtain rfl := Option.some.inj ho
                          exact wpOpIn_yes rfl rfl (yielded_of (g := 21) (t := 229) (b := false) rfl rfl (by rw [hP.size]; show 229 < 254; decide) (hpre 21 (by decide) rfl).1) (wpW_val (r_load1 3 agg3 (.tmp 240) ⟨gp, 0 + s1, none⟩ rfl (hpre 32 (by decide) rfl).1 (HCX.out _ (bl3 HBx.out hS)).2.2.2.2.1) ⟨_, _, rfl, hS, (fun h => by simp at h), Step.same, rfl⟩)
                        · obtain rfl := Option.some.inj ho
                          exact wpOpIn_yes rfl rfl (yielded_of (g := 21) (t := 229) (b := false) rfl rfl (by rw [hP.size]; show 229 < 254; decide) (hpre 21 (by decide) rfl).1) (wpW_val (r_move (.tmp 12) rfl (hP.out 12 (dm_out (by kernel_rfl)))) ⟨_, _, rfl, hS, (fun h => by simp at h), Step.same, rfl⟩)
                        · obtain rfl := Option.some.inj ho
                          exact wpOpIn_yes rfl rfl (yielded_of (g := 21) (t := 229) (b := false) rfl rfl (by rw [hP.size]; show 229 < 254; decide) (hpre 21 (by decide) rfl).1) (wpW_val (r_move (.tmp 27) rfl (hP.out 27 (dm_out (by kernel_rfl)))) ⟨_, _, rfl, hS, (fun h => by simp at h), Step.same, rfl⟩)
                        · obtain rfl := Option.some.inj ho
                          exact wpOpIn_yes rfl rfl (yielded_of (g := 21) (t := 229) (b := false) rfl rfl (by rw [hP.size]; show 229 < 254; decide) (hpre 21 (by decide) rfl).1) (wpW_val (r_move (.tmp 31) rfl (hP.out 31 (dm_out (by kernel_rfl)))) ⟨_, _, rfl, hS, (fun h => by simp at h), Step.same, rfl⟩)
                        · obtain rfl := Option.some.inj ho
                          exact wpOpIn_yes rfl rfl (yielded_of (g := 21) (t := 229) (b := false) rfl rfl (by rw [hP.size]; show 229 < 254; decide) (hpre 21 (by decide) rfl).1) (wpW_val (r_idx (.tmp 243) (.tmp 244) _ _ rfl (hpre 35 (by decide) rfl).1 (hpre 36 (by decide) rfl).1 (idx_offs Try.underlying24 size3 gp 0 t.length t.length i hlt _)) ⟨_, _, rfl, hS, (fun h => by simp at h), Step.same, rfl⟩)
                        · obtain rfl := Option.some.inj ho
                          exact wpOpIn_yes rfl rfl (yielded_of (g := 21) (t := 229) (b := false) rfl rfl (by rw [hP.size]; show 229 < 254; decide) (hpre 21 (by decide) rfl).1) (wpW_val (r_load1 3 agg3 (.tmp 245) ⟨gp, 0 + i, none⟩ rfl (hpre 37 (by decide) rfl).1 (HCX.out _ (bl3 HBx.out hS)).2.2.2.2.2) ⟨_, _, rfl, hS, (fun h => by simp at h), Step.same, rfl⟩)
                        · obtain rfl := Option.some.inj ho
                          exact wpOpIn_yes rfl rfl (yielded_of (g := 21) (t := 229) (b := false) rfl rfl (by rw [hP.size]; show 229 < 254; decide) (hpre 21 (by decide) rfl).1) (wpW_val (r_move (.tmp 32) rfl (hP.out 32 (dm_out (by kernel_rfl)))) ⟨_, _, rfl, hS, (fun h => by simp at h), Step.same, rfl⟩)
                        · obtain rfl := Option.some.inj ho
                          exact wpOpIn_yes rfl rfl (yielded_of (g := 21) (t := 229) (b := false) rfl rfl (by rw [hP.size]; show 229 < 254; decide) (hpre 21 (by decide) rfl).1) (wpW_val (r_neg (.tmp 247) _ rfl (hpre 39 (by decide) rfl).1 (by omega)) ⟨_, _, rfl, hS, (fun h => by simp at h), Step.same, rfl⟩)
                        · obtain rfl := Option.some.inj ho
                          have hal : Below w2.heap.size w2 (w2.alloc (.cells #[.int .i64 (-(x : Int))] 3)) := (Below.refl _ _).alloc (Nat.le_refl _) _
                          exact wpOpIn_yes rfl rfl (yielded_of (g := 21) (t := 229) (b := false) rfl rfl (by rw [hP.size]; show 229 < 254; decide) (hpre 21 (by decide) rfl).1) (wpW_val (r_bs1 (.tmp 248) (-(x : Int)) rfl (hpre 40 (by decide) rfl).1) ⟨_, _, rfl, hS.trans (hal.mono hS.size), (fun h => by simp at h), Step.below hal, ints_one_new HFX.out.2⟩)
                        · obtain rfl := Option.some.inj ho
                          obtain ⟨A, q, e6, i6⟩ := (hpre 41 (by decide) rfl).1
                          exact wpOpIn_yes rfl rfl (yielded_of (g := 21) (t := 229) (b := false) rfl rfl (by rw [hP.size]; show 229 < 254; decide) (hpre 21 (by decide) rfl).1) (wpW_call (R := fun v w' => v = .int .i64 ((f s1 : Nat) : Int) ∧ w' = w2) (r_call3 (.tmp 242) (.tmp 246) (.tmp 249) _ _ _ _ rfl (hpre 34 (by decide) rfl).1 (hpre 38 (by decide) rfl).1 e6 call65) ((H65b.out w2 (bl3 HBx.out hS) _ i6.at_).mono fun e w' ⟨he, hb⟩ => ⟨_, he, rfl, hb⟩)
                              (fun v w'' ⟨hv, hb⟩ => (by subst hb; exact ⟨v, _, rfl, hS, (fun h => by simp at h), Step.same, hv⟩)))
                        · obtain rfl := Option.some.inj ho
                          exact wpOpIn_yes rfl rfl (yielded_of (g := 21) (t := 229) (b := false) rfl rfl (by rw [hP.size]; show 229 < 254; decide) (hpre 21 (by decide) rfl).1) (wpW_val (r_ne_same (.tmp 241) (.tmp 250) _ rfl (hpre 33 (by decide) rfl).1 (hpre 42 (by decide) rfl).1) ⟨_, _, rfl, hS, (fun h => by simp at h), Step.same, rfl⟩)
                        · obtain rfl := Option.some.inj ho
                          exact wpOpIn_of rfl rfl (wpW_val (r_pick (.tmp 229) (.const (.bool true)) (.tmp 251) false rfl (hpre 21 (by decide) rfl).1 (hpre 43 (by decide) rfl).1) ⟨_, _, rfl, hS, (fun h => by simp at h), Step.same, rfl⟩)
                      · intro O ls a w2 hall hS hbw hP hsl
                        obtain ⟨vs, hvs, hfr⟩ := hP.frame 254 rfl
                        have e252 : a.tmps.getD 252 undef = .bool false := (hsl 44 (by decide) (.inl rfl)).1
                        rw [← hvs] at e252
                        have HRN := Lib.hid hS
                        clear hsl hP hall hS hvs hbw
                        subst hfr
                        dsimp only
                        simp only [List.range, List.range.loop, List.map_cons, List.map_nil, List.any_cons, List.any_nil, Nat.reduceBEq, Option.some_beq_some, Bool.or_false, Bool.false_or, Bool.false_eq_true, if_true, if_false, List.getD_cons_zero, List.getD_cons_succ, e252]
                        go_wp2_with fail
                        go_roundw
                        case rel => exact ⟨x + 1, by go_num, by omega, by omega, Lib.hid (bl3 HBx.out HRN.out)⟩
                        case measure => simp [intOf]; omega
                    · obtain rfl : x = 3 := by omega
                      go_wp2_with fail
                      go_roundw
                      case rel => exact ⟨i + 1, by go_num, by omega, HBx⟩
                      case measure => simp [intOf]; omega
                · obtain rfl : i = t.length := by omega
                  go_wp2_with fail
                  go_ret
                  exact ⟨rfl, bl3 HWY.out HBi.out⟩
end Go.Proofs
