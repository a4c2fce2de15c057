/- minors; Matrices that are written: entries and rows; SmithMinors, plainly, and what it has in memory; SmithMinors. -/
import Derived.Test.YthfachbkcmifbaaMiCS9
namespace Go.Proofs
open Go.RowKit Go.Shelf Go.Proofs.Sm
theorem bit_int (R i : Nat) : ((R : Int) / 2 ^ i) = ((R / 2 ^ i : Nat) : Int) := by simp
theorem pow_le (r : Nat) (h : r ≤ 4) : 1 ≤ 2 ^ r ∧ 2 ^ r ≤ 16 := by
  obtain rfl | rfl | rfl | rfl | rfl : r = 0 ∨ r = 1 ∨ r = 2 ∨ r = 3 ∨ r = 4 := by omega
  all_goals decide
/-- the facts of a bit, in the walk's spellings -/
theorem bit_facts (R i : Nat) : (0 : Int) ≤ (R : Int) / 2 ^ i ∧ (((R : Int) / 2 ^ i).tmod 2 == 1) = bitOf R i ∧ (((R : Int) / 2 ^ i) % 2 == 1) = bitOf R i := by
  rw [bit_int]
  have h0 : (0 : Int) ≤ ((R / 2 ^ i : Nat) : Int) := Int.natCast_nonneg _
  have h1 : (((R / 2 ^ i : Nat) : Int) % 2 == 1) = bitOf R i := by
    unfold bitOf
    rw [Bool.eq_iff_iff, beq_iff_eq, beq_iff_eq]; omega
  exact ⟨h0, by rw [Int.tmod_eq_emod_of_nonneg h0]; exact h1, h1⟩
theorem det_any {w0 : World} {v : Value} {a : Mat} {k : Nat} (ha : Tab w0 v a) (hr : Rect a k k) (hk : k ≤ 4) (W : World) (hW : Below w0.heap.size w0 W) (hd : -((31104 : Nat) : Int) ≤ detE k (ent a) ∧ detE k (ent a) ≤ (31104 : Nat)) :
    Calls Try.prog 23 #[v] W fun e w' => e = .returned (.int .i64 (detE k (ent a))) ∧ Hid (Below w0.heap.size w0 w') := by
  have h := det_at ha hr hk W hW
  rw [wr_in (by omega)] at h
  exact h
def MinPost (z : Int) (w : World) (e : Ending) (w' : World) : Prop := e = .returned (.int .i64 z) ∧ Below w.heap.size w w'
set_option maxRecDepth 100000 in
set_option maxHeartbeats 4000000 in
theorem minors24_any (w : World) (v : Value) (a : Mat) (r n k : Nat) (h : Tab w v a) (ha : Rect a r n) (hr1 : 1 ≤ r) (hr : r ≤ 4) (hn : n ≤ 4) (hk1 : 1 ≤ k) (hk : k ≤ 4) (hbd : ∀ i j, -6 ≤ ent a i j ∧ ent a i j ≤ 6) : Calls Try.prog 24 #[v, .int .i64 (n : Int), .int .i64 (k : Int)] w (MinPost (minG k a r n) w) := by
  obtain ⟨A0, c0, rfl, h1, h2, hc⟩ := h.open_
  have HA := Lib.hid ha
  rw [ha.1] at h1 hc ⊢
  have HC := Lib.hid hc
  have HBD := Lib.hid hbd
  clear h hc ha hbd
  obtain ⟨M, hM⟩ : ∃ M, M = 2 ^ r := ⟨_, rfl⟩
  obtain ⟨N, hN⟩ : ∃ N, N = 2 ^ n := ⟨_, rfl⟩
  have hMb := pow_le r hr
  have hNb := pow_le n hn
  rw [← hM] at hMb
  rw [← hN] at hNb
  have HM : Hid (minG k a r n = rowG k a r n M) := Lib.hid (by unfold minG; rw [← hM])
  have HN : Hid (∀ R, rowG k a r n (R + 1) = colG k a r n R N (rowG k a r n R)) := Lib.hid fun R => by rw [rowG, ← hN]
  have hpM : (2 : Int) ^ r = (M : Int) := by rw [hM]; simp
  have hpN : (2 : Int) ^ n = (N : Int) := by rw [hN]; simp
  have hwM : IntKind.i64.wrap (M : Int) = (M : Int) := IntWalk.i64_in _ (by omega)
  have hwN : IntKind.i64.wrap (N : Int) = (N : Int) := IntWalk.i64_in _ (by omega)
  have hr0 : (0 : Int) ≤ (r : Int) := Int.natCast_nonneg _
  have hn0 : (0 : Int) ≤ (n : Int) := Int.natCast_nonneg _
  have hrb : (r : Int) ≤ 4 := by omega
  have hnb : (n : Int) ≤ 4 := by omega
  have hMi : (M : Int) ≤ 16 := by omega
  have hNi : (N : Int) ≤ 16 := by omega
  generalize minG k a r n = Z at *
  clear hM hN
  go_enter Try.func24, Try.ntmps24
  go_wp2_with fail
  go_loopw [7, 8] (fun zg z wr => ∃ R : Nat, R ≤ M ∧ z = .int .i64 R ∧ zg = .int .i64 (rowG k a r n R) ∧ Hid (Below w.heap.size w wr)) (fun _ z _ => M - (intOf z).toNat)
  case atStart => exact ⟨0, by omega, rfl, by rfl, Lib.hid (Below.refl _ _)⟩
  case round =>
    obtain ⟨R, hR, rfl, rfl, HB⟩ := hrel
    have hR0 : (0 : Int) ≤ (R : Int) := Int.natCast_nonneg _
    have hRi : (R : Int) ≤ 16 := by omega
    by_cases hlt : R < M
    · have hlt' : (R : Int) < (M : Int) := by omega
      go_wp2_with fail
      go_loopw [7, 9] (fun zg z wr => ∃ C : Nat, C ≤ N ∧ z = .int .i64 C ∧ zg = .int .i64 (colG k a r n R C (rowG k a r n R)) ∧ Hid (Below w.heap.size w wr)) (fun _ z _ => N - (intOf z).toNat)
      case atStart => exact ⟨0, by omega, rfl, by rfl, HB⟩
      case round =>
        obtain ⟨C, hC, rfl, rfl, HB2⟩ := hrel
        have hC0 : (0 : Int) ≤ (C : Int) := Int.natCast_nonneg _
        have hCi : (C : Int) ≤ 16 := by omega
        by_cases hcl : C < N
        · have hcl' : (C : Int) < (N : Int) := by omega
          have HG : Hid (0 ≤ colG k a r n R C (rowG k a r n R) ∧ colG k a r n R C (rowG k a r n R) ≤ (31104 : Nat)) := Lib.hid ⟨colG_nonneg _ _ (rowG_nonneg R), colG_le (fun R C _ _ => subM_det hk HBD.out R C) _ _ (rowG_nonneg R) (rowG_le (fun R C _ _ => subM_det hk HBD.out R C) R)⟩
          have HSTEP : Hid (colG k a r n R (C + 1) (rowG k a r n R) = gStep k a (sel R r) (sel C n) (colG k a r n R C (rowG k a r n R))) := Lib.hid rfl
          generalize colG k a r n R C (rowG k a r n R) = g at *
          generalize hgn : colG k a r n R (C + 1) (rowG k a r n R) = g2 at *
          go_wp2_with fail
          go_loopw [10, 11, 12] (fun zm zw z wr => ∃ (i m q : Nat) (A : Option Addr) (c : Nat), i ≤ r ∧ z = .int .i64 i ∧ zm = .slice A m c ∧ zw = .int .i64 (q : Int) ∧ m ≤ 4 ∧ q ≤ 4 ∧ Hid (m = (sel R i).length ∧ (0 < i → q = (sel C n).length) ∧ GM w.heap.size wr (.slice A m c) a (sel R i) (sel C n) ∧ Below w.heap.size w wr)) (fun _ _ z _ => r - (intOf z).toNat)
          case atStart => exact ⟨0, 0, 0, none, 0, by omega, rfl, rfl, rfl, by omega, by omega, Lib.hid ⟨rfl, fun h => absurd h (Nat.lt_irrefl _), GM.nil _ _ _ _, HB2.out⟩⟩
          case round =>
            obtain ⟨i, m, q, A, c, hi, rfl, rfl, rfl, hm4, hq4, HQ⟩ := hrel
            have hi0 : (0 : Int) ≤ (i : Int) := Int.natCast_nonneg _
            by_cases hil : i < r
            · have hil' : (i : Int) < (r : Int) := by omega
              obtain ⟨bo, oo, rfl, hcells⟩ := HC.out (by omega)
              obtain ⟨u, hu, hI⟩ := hcells i hil
              obtain ⟨A1, c1, rfl, e1, e2, e3⟩ := hI.open_
              have hal : (a.getD i []).length = n := rect_row HA.out hil
              rw [hal] at e1 e3 hu
              have HROW := Lib.hid e3
              have HU := Lib.hid hu
              have hi4 : (i : Int) ≤ 4 := by omega
              clear hcells hI e3 hal hu
              go_wp2_with fail
              obtain ⟨wi, hwi⟩ : ∃ wi, wi = wr := ⟨_, rfl⟩
              have HQI : Hid (GM w.heap.size wi (.slice A m c) a (sel R i) (sel C n) ∧ Below w.heap.size w wi) := Lib.hid (by rw [hwi]; exact ⟨HQ.out.2.2.1, HQ.out.2.2.2⟩)
              go_loopw [13, 14] (fun zr z wr2 => ∃ (j p : Nat) (A : Option Addr) (c : Nat), j ≤ n ∧ z = .int .i64 j ∧ zr = .slice A p c ∧ p ≤ 4 ∧ Hid (p = (sel C j).length ∧ OwnI wi.heap.size wr2 (.slice A p c) ((sel C j).map (ent a i)) ∧ Below wi.heap.size wi wr2)) (fun _ z _ => n - (intOf z).toNat)
              case atStart => exact ⟨0, 0, none, 0, by omega, rfl, rfl, by omega, Lib.hid ⟨rfl, World.ownsRow_nil _ _ _ _, by rw [hwi]; exact Below.refl _ _⟩⟩
              case round =>
                clear hwi
                obtain ⟨j, p, A2, c2, hj, rfl, rfl, hp4, HP⟩ := hrel
                have hj0 : (0 : Int) ≤ (j : Int) := Int.natCast_nonneg _
                by_cases hjl : j < n
                · have hjl' : (j : Int) < (n : Int) := by omega
                  have hj64 : (j : Int) ≤ 64 := by omega
                  obtain ⟨b0, b1, b2⟩ := bit_facts C j
                  have HSEL := Lib.hid (sel_succ C j)
                  cases hb : bitOf C j with
                  | true =>
                    rw [hb] at b1 b2 HSEL
                    have HSEL2 : Hid (sel C (j + 1) = sel C j ++ [j]) := Lib.hid (by rw [HSEL.out, if_pos rfl])
                    obtain ⟨bx, ox, rfl, hcc⟩ := HROW.out (by omega)
                    have hx := hcc j hjl
                    have hBw : Below w.heap.size w wr := HQI.out.2.trans (HP.out.2.2.mono HQI.out.2.size)
                    have hx' := (hBw.cell (p := ⟨bx, ox + j, none⟩) (World.block_lt_of_cell? w _ hx)).trans hx
                    have hu' := (hBw.cell (p := ⟨bo, oo + i, none⟩) (World.block_lt_of_cell? w _ HU.out)).trans HU.out
                    obtain ⟨A3, c3, w3, hr3, ho3, hg3, -⟩ := push_int 25 25 Try.underlying25 wr wi.heap.size _ _ HP.out.2.1 (ent a i j) (by rw [List.length_map, ← HP.out.1]; omega) HP.out.2.2.size
                    rw [List.length_map, ← HP.out.1] at hr3 ho3
                    have HR3 := Lib.hid hr3
                    have HN3 : Hid (p + 1 = (sel C (j + 1)).length ∧ OwnI wi.heap.size w3 (.slice A3 (p + 1) c3) ((sel C (j + 1)).map (ent a i)) ∧ Below wi.heap.size wi w3) := Lib.hid ⟨by rw [HSEL2.out, List.length_append, ← HP.out.1]; rfl, by rw [HSEL2.out, List.map_append]; exact ho3, HP.out.2.2.grown hg3 HP.out.2.2.size fun r hr => (owns_block HP.out.2.1 r hr).1⟩
                    have hp5 : p + 1 ≤ 4 := by have := sel_len C (j + 1); have := HN3.out.1; omega
                    have hxe : (a.getD i []).getD j 0 = ent a i j := rfl
                    rw [hxe] at hx'
                    clear hcc hx hBw hr3 ho3 hg3 hxe
                    generalize ent a i j = x at *
                    go_wp2_with ((with_reducible refine wpList_sel 53 ?_); refine wpList_val rfl (r_app (.tmp 44) (.tmp 52) 25 rfl rfl rfl HR3.out) ?_)
                    go_roundw
                    case rel => exact ⟨j + 1, p + 1, A3, c3, by omega, by go_num, rfl, hp5, HN3⟩
                    case measure => simp [intOf]; omega
                  | false =>
                    rw [hb] at b1 b2 HSEL
                    have HN2 : Hid (p = (sel C (j + 1)).length ∧ OwnI wi.heap.size wr (.slice A2 p c2) ((sel C (j + 1)).map (ent a i)) ∧ Below wi.heap.size wi wr) := Lib.hid (by rw [HSEL.out, if_neg (by simp), List.append_nil]; exact HP.out)
                    go_wp2_with fail
                    go_roundw
                    case rel => exact ⟨j + 1, p, A2, c2, by omega, by go_num, rfl, hp4, HN2⟩
                    case measure => simp [intOf]; omega
                · obtain rfl : j = n := by omega
                  obtain ⟨b0, b1, b2⟩ := bit_facts R i
                  have hi64 : (i : Int) ≤ 64 := by omega
                  have HSEL := Lib.hid (sel_succ R i)
                  have hwB := Lib.hid (HQI.out.2.trans (HP.out.2.2.mono HQI.out.2.size))
                  have hp0 : (0 : Int) ≤ (p : Int) := Int.natCast_nonneg _
                  cases hb : bitOf R i with
                  | true =>
                    rw [hb] at b1 b2 HSEL
                    obtain ⟨A3, c3, w3, hr3, hG3, hB3⟩ := HQI.out.1.push HQI.out.2 HQ.out.1 (by omega) HP.out.1 HP.out.2.1 HP.out.2.2
                    have HR3 := Lib.hid hr3
                    have HN3 : Hid (m + 1 = (sel R (i + 1)).length ∧ (0 < i + 1 → p = (sel C j).length) ∧ GM w.heap.size w3 (.slice A3 (m + 1) c3) a (sel R (i + 1)) (sel C j) ∧ Below w.heap.size w w3) := Lib.hid ⟨by rw [HSEL.out, if_pos rfl, List.length_append, ← HQ.out.1]; rfl, fun _ => HP.out.1, by rw [HSEL.out, if_pos rfl]; exact hG3, hB3⟩
                    have hm5 : m + 1 ≤ 4 := by have := sel_len R (i + 1); have := HN3.out.1; omega
                    clear hr3 hG3 hB3
                    go_wp2_with ((with_reducible refine wpList_sel 64 ?_); refine wpList_val rfl (r_app (.tmp 61) (.tmp 63) 22 rfl rfl rfl HR3.out) ?_)
                    go_roundw
                    case rel => exact ⟨i + 1, m + 1, p, A3, c3, by omega, by go_num, rfl, rfl, hm5, hp4, HN3⟩
                    case measure => simp [intOf]; omega
                  | false =>
                    rw [hb] at b1 b2 HSEL
                    have HN3 : Hid (m = (sel R (i + 1)).length ∧ (0 < i + 1 → p = (sel C j).length) ∧ GM w.heap.size wr (.slice A m c) a (sel R (i + 1)) (sel C j) ∧ Below w.heap.size w wr) := Lib.hid (by
                      rw [HSEL.out, if_neg (by simp), List.append_nil]
                      exact ⟨HQ.out.1, fun _ => HP.out.1, HQI.out.1.keep HP.out.2.2, hwB.out⟩)
                    go_wp2_with fail
                    go_roundw
                    case rel => exact ⟨i + 1, m, p, A, c, by omega, by go_num, rfl, rfl, hm4, hp4, HN3⟩
                    case measure => simp [intOf]; omega
            · obtain rfl : i = r := by omega
              have hm0 : (0 : Int) ≤ (m : Int) := Int.natCast_nonneg _
              have hq0 : (0 : Int) ≤ (q : Int) := Int.natCast_nonneg _
              have HB4 := Lib.hid HQ.out.2.2.2
              have hqe : q = (sel C n).length := HQ.out.2.1 (by omega)
              by_cases hmk : m = k
              · have hd1 : ((m : Int) == (k : Int)) = true := by rw [beq_iff_eq, hmk]
                by_cases hqk : q = k
                · have hd2 : ((q : Int) == (k : Int)) = true := by rw [beq_iff_eq, hqk]
                  have hRk : (sel R i).length = k := by rw [← HQ.out.1]; exact hmk
                  have hCk : (sel C n).length = k := by rw [← hqe]; exact hqk
                  have HDET : Hid (∀ W, Below wr.heap.size wr W → _) := Lib.hid fun W hW => det_any (HQ.out.2.2.1.tab (by omega) HBD.out) ⟨(subM_rect a (sel R i) (sel C n)).1.trans hRk, fun x hx => ((subM_rect a (sel R i) (sel C n)).2 x hx).trans hCk⟩ hk W hW (subM_det hk HBD.out _ _)
                  have HDB := Lib.hid (subM_det hk HBD.out (sel R i) (sel C n))
                  have HS2 : Hid (g2 = (Int.gcd g (detE k (ent (subM a (sel R i) (sel C n)))) : Int)) := Lib.hid (by rw [HSTEP.out]; unfold gStep; rw [if_pos ⟨hRk, hCk⟩])
                  generalize detE k (ent (subM a (sel R i) (sel C n))) = d at *
                  have HGCD : Hid (∀ W, Calls Try.prog 43 #[.int .i64 g, .int .i64 d] W fun e w' => e = .returned (.int .i64 g2) ∧ ∃ q, w' = W.drewN q) := Lib.hid fun W => by
                    rw [HS2.out]
                    exact gcd43_any W g d (by have := HG.out; omega) (by have := HDB.out; omega)
                  clear hmk hqk hRk hCk hqe
                  go_wp2_with (first
                    | (go_at_call 23; (refine (HDET.out _ (below_drewN (Below.refl _ _) _)).mono ?_); rintro e w5 ⟨rfl, HB5⟩)
                    | (go_at_call 23; (refine (HDET.out _ (Below.refl _ _)).mono ?_); rintro e w5 ⟨rfl, HB5⟩)
                    | (go_at_call 43; (refine (HGCD.out _).mono ?_); rintro e w6 ⟨rfl, q6, rfl⟩))
                  go_roundw
                  case rel => exact ⟨C + 1, by omega, by go_num, by rw [hgn], Lib.hid (below_drewN (HB4.out.trans (HB5.out.mono HB4.out.size)) _)⟩
                  case measure => simp [intOf]; omega
                · have hd2 : ((q : Int) == (k : Int)) = false := by rw [beq_eq_false_iff_ne]; omega
                  have hgg : g2 = g := by rw [HSTEP.out]; unfold gStep; rw [if_neg (fun h => hqk (by rw [hqe]; exact h.2))]
                  clear hmk hqk hqe
                  go_wp2_with fail
                  go_roundw
                  case rel => exact ⟨C + 1, by omega, by go_num, by rw [hgn, hgg], HB4⟩
                  case measure => simp [intOf]; omega
              · have hd1 : ((m : Int) == (k : Int)) = false := by rw [beq_eq_false_iff_ne]; omega
                have hgg : g2 = g := by rw [HSTEP.out]; unfold gStep; rw [if_neg (fun h => hmk (by rw [HQ.out.1]; exact h.1))]
                clear hmk hqe
                go_wp2_with fail
                go_roundw
                case rel => exact ⟨C + 1, by omega, by go_num, by rw [hgn, hgg], HB4⟩
                case measure => simp [intOf]; omega
        · obtain rfl : C = N := by omega
          go_wp2_with fail
          go_roundw
          case rel => exact ⟨R + 1, by omega, by go_num, by rw [HN.out], HB2⟩
          case measure => simp [intOf]; omega
    · obtain rfl : R = M := by omega
      go_wp2_with fail
      go_ret
      exact ⟨ret_int HM.out.symm, HB.out⟩
end Go.Proofs
namespace Go.Proofs
open Go.RowKit Go.Shelf Go.Proofs.Sm
section
variable {base : Nat} {w : World} {v : Value} {bl cs : Nat → Nat} {m : Mat}
theorem MatM.row_at (h : MatM base w v bl cs m) {i : Nat} (hi : i < m.length) : ∃ g c, v = .slice (some ⟨g, 0, none⟩) m.length c ∧ w.cell? ⟨g, i, none⟩ = some (.slice (some ⟨bl i, 0, none⟩) (m.getD i []).length (cs i)) ∧ w.frozen? ⟨g, i, none⟩ = false ∧ base ≤ g := by
  obtain ⟨hl, ho⟩ := h.out
  rcases ho with ⟨-, h0⟩ | ⟨g, cap, cur, e, hb, hC, h1, hm, hs, ht⟩
  · omega
  · refine ⟨g, cap, e, ?_, by simp [World.frozen?, hC], hb⟩
    rw [cell_of_row _ _ _ _ _ _ hC]
    have h2 : (cur.toList.take (m.length * 1))[i]? = ((List.range m.length).map fun i => Value.slice (some ⟨bl i, 0, none⟩) (m.getD i []).length (cs i))[i]? := by rw [ht]
    rw [List.getElem?_take, if_pos (by omega)] at h2
    simpa [hi] using h2
theorem MatM.ent_at (h : MatM base w v bl cs m) {i j : Nat} (hi : i < m.length) (hj : j < (m.getD i []).length) : w.cell? ⟨bl i, j, none⟩ = some (.int .i64 (ent m i j)) ∧ w.frozen? ⟨bl i, j, none⟩ = false :=
  let ⟨_, hX, _⟩ := h.row i hi; ⟨hX.cell hj, hX.frozen j⟩
/-- writing an entry -/
theorem MatM.set (h : MatM base w v bl cs m) {i j : Nat} (hi : i < m.length) (hj : j < (m.getD i []).length) (z : Int) : MatM base (w.setCell ⟨bl i, j, none⟩ (.int .i64 z)) v bl cs (put m i j z) := by
  have hne : ∀ p, p ≠ bl i → (w.setCell ⟨bl i, j, none⟩ (.int .i64 z)).heap[p]? = w.heap[p]? := fun p hp => Below.heap_setCell w ⟨bl i, j, none⟩ _ p hp
  obtain ⟨C, hC⟩ := h.row_ty hi
  refine ⟨?_, fun p hp => ?_, fun p q hp hq => h.inj p q (by rw [length_put] at hp; exact hp) (by rw [length_put] at hq; exact hq)⟩
  · simp only [length_put, rowlen_put]
    refine owns_keep h.out fun r hr => hne r fun e => ?_
    obtain ⟨-, C', hC'⟩ := owns_block h.out r hr
    rw [e, hC] at hC'
    injection hC' with h5
    injection h5 with _ h6 _
    exact absurd h6 (by decide)
  · rw [length_put] at hp
    obtain ⟨a, b', d⟩ := h.row p hp
    rw [rowlen_put]
    refine ⟨a, ?_, d⟩
    rw [row_put]
    by_cases e : i = p
    · subst e
      rw [if_pos ⟨rfl, hi⟩]
      exact b'.set hj z
    · rw [if_neg (fun hh => e hh.1)]
      exact b'.keep (hne _ fun e2 => e (h.inj p i hp hi e2).symm)
/-- two rows change places -/
theorem MatM.swap (h : MatM base w v bl cs m) {i j g : Nat} (hi : i < m.length) (hj : j < m.length) (hg : v.ownBlock = some g) :
    MatM base ((w.setCell ⟨g, i, none⟩ (.slice (some ⟨bl j, 0, none⟩) (m.getD j []).length (cs j))).setCell ⟨g, j, none⟩ (.slice (some ⟨bl i, 0, none⟩) (m.getD i []).length (cs i))) v (fun p => bl (sw i j p)) (fun p => cs (sw i j p)) (swR m i j) := by
  obtain ⟨hbg, Cg, hCg⟩ := owns_block h.out g hg
  have hne : ∀ p, p ≠ g → ((w.setCell ⟨g, i, none⟩ (.slice (some ⟨bl j, 0, none⟩) (m.getD j []).length (cs j))).setCell ⟨g, j, none⟩ (.slice (some ⟨bl i, 0, none⟩) (m.getD i []).length (cs i))).heap[p]? = w.heap[p]? := fun p hp =>
    (Below.heap_setCell _ ⟨g, j, none⟩ _ p hp).trans (Below.heap_setCell w ⟨g, i, none⟩ _ p hp)
  have hlen : (swR m i j).length = m.length := by simp [swR]
  have hrow : ∀ p, (swR m i j).getD p [] = m.getD (sw i j p) [] := fun p => by
    unfold swR sw
    rw [getD_set_, getD_set_, List.length_set]
    by_cases e : j = p
    · subst e
      rw [if_pos ⟨rfl, hj⟩]
      by_cases e2 : j = i
      · rw [if_pos e2, e2]
      · rw [if_neg e2, if_pos rfl]
    · rw [if_neg (fun hh => e hh.1)]
      by_cases e2 : i = p
      · rw [if_pos ⟨e2, hi⟩, if_pos e2.symm]
      · rw [if_neg (fun hh => e2 hh.1), if_neg (fun hh => e2 hh.symm), if_neg (fun hh => e hh.symm)]
  have hswl : ∀ p, p < m.length → sw i j p < m.length := fun p hp => sw_bd hi hj hp
  have hinj : ∀ p q, sw i j p = sw i j q → p = q := fun p q e => by
    unfold sw at e
    split at e <;> split at e <;> first | omega | (split at e <;> first | omega | (split at e <;> omega))
  refine ⟨?_, fun p hp => ?_, fun p q hp hq e => ?_⟩
  · rw [hlen]
    have h2 := owns_set (i := j) (owns_set (i := i) h.out hg (.slice (some ⟨bl j, 0, none⟩) (m.getD j []).length (cs j))) hg (.slice (some ⟨bl i, 0, none⟩) (m.getD i []).length (cs i))
    have e2 : ((((List.range m.length).map fun i => Value.slice (some ⟨bl i, 0, none⟩) (m.getD i []).length (cs i)).set i (.slice (some ⟨bl j, 0, none⟩) (m.getD j []).length (cs j))).set j (.slice (some ⟨bl i, 0, none⟩) (m.getD i []).length (cs i))) =
        (List.range m.length).map fun p => Value.slice (some ⟨bl (sw i j p), 0, none⟩) ((swR m i j).getD p []).length (cs (sw i j p)) := by
      apply List.ext_getElem (by simp)
      intro p hp1 hp2
      simp only [List.length_set, List.length_map, List.length_range] at hp1
      rw [List.getElem_set, List.getElem_set]
      simp only [List.getElem_map, List.getElem_range, hrow p]
      unfold sw
      by_cases e3 : j = p
      · subst e3
        rw [if_pos rfl]
        by_cases e4 : j = i
        · rw [if_pos e4, e4]
        · rw [if_neg e4, if_pos rfl]
      · rw [if_neg e3]
        by_cases e4 : i = p
        · rw [if_pos e4, if_pos e4.symm]
        · rw [if_neg e4, if_neg (fun h => e4 h.symm), if_neg (fun h => e3 h.symm)]
    rw [← e2]
    exact h2
  · rw [hlen] at hp
    have h4 := h.row _ (hswl p hp)
    rw [hrow p]
    exact ⟨h4.1, h4.2.1.keep (hne _ fun e2 => by
      obtain ⟨C, hC⟩ := h.row_ty (hswl p hp)
      rw [e2, hCg] at hC
      injection hC with h5
      injection h5 with _ h6 _
      exact absurd h6 (by decide)), h4.2.2⟩
  · rw [hlen] at hp hq
    exact hinj _ _ (h.inj _ _ (hswl p hp) (hswl q hq) e)
end
end Go.Proofs
namespace Go.Proofs
open Go.RowKit Go.Shelf Go.Proofs.Sm
/-- a matrix after changes of rows that keep its minors' divisors -/
structure Chg (rows n : Nat) (B : Int) (D A : Mat) : Prop where
  rect : Rect A rows n
  bd : ∀ i j, -B ≤ ent A i j ∧ ent A i j ≤ B
  same : ∀ k c, k ≤ 4 → (DT k c A ↔ DT k c D)
section
variable {rows n : Nat} {B : Int} {D A : Mat}
theorem Chg.swap (h : Chg rows n B D A) {i j : Nat} (hi : i < rows) (hj : j < rows) : Chg rows n B D (swR A i j) :=
  ⟨rect_swR h.rect hi hj, fun p q => by rw [ent_swR h.rect hi hj]; exact h.bd _ _, fun k c hk => (dt_swR_iff h.rect hi hj).trans (h.same k c hk)⟩
theorem Chg.neg (h : Chg rows n B D A) {i : Nat} (hi : i < rows) : Chg rows n B D (Sm.addR A i i (-2)) :=
  ⟨rect_addR h.rect hi _, fun p q => by
    have h1 := h.bd i q
    have h2 := h.bd p q
    rw [ent_addR h.rect hi hi]
    split <;> omega, fun k c hk => (dt_neg_iff hk h.rect hi).trans (h.same k c hk)⟩
theorem Chg.add (h : Chg rows n B D A) {i j : Nat} (hi : i < rows) (hj : j < rows) (hne : i ≠ j) : Chg rows n (2 * B) D (Sm.addR A i j 1) :=
  ⟨rect_addR h.rect hj _, fun p q => by
    have h1 := h.bd i q
    have h2 := h.bd p q
    have h3 := h.bd j q
    rw [ent_addR h.rect hi hj]
    split <;> omega, fun k c hk => (dt_addR_iff hk h.rect hi hj hne 1).trans (h.same k c hk)⟩
theorem Chg.mono (h : Chg rows n B D A) {B' : Int} (hB : B ≤ B') : Chg rows n B' D A := ⟨h.rect, fun i j => by have := h.bd i j; omega, h.same⟩
theorem Chg.valid (h : Chg rows n B D A) (hB : B ≤ 1000000) : Valid n A := ⟨h.rect.2, fun i j => by have := h.bd i j; omega⟩
end
theorem chg_start (l : List Int) (rows n : Nat) : Chg rows n 6 (drawnE l rows n) (drawnE l rows n) := ⟨drawn_rect l rows n, fun i j => by
  unfold ent
  rcases Nat.lt_or_ge i rows with hi | hi
  · have : (drawnE l rows n).getD i [] = drRow l n i := by simp [drawnE, List.getD_eq_getElem?_getD, hi]
    rw [this]
    rcases Nat.lt_or_ge j n with hj | hj
    · have h2 : (drRow l n i).getD j 0 = dr l (i * n + j) := by simp [drRow, List.getD_eq_getElem?_getD, hj]
      rw [h2]
      exact dr_bd l (i * n + j)
    · rw [List.getD_eq_getElem?_getD, List.getElem?_eq_none (by rw [drRow_length]; exact hj)]; simp
  · rw [List.getD_eq_getElem?_getD (l := drawnE l rows n), List.getElem?_eq_none (by rw [drawnE_length]; exact hi)]; simp, fun _ _ _ => Iff.rfl⟩
/-- what the changed matrix gives -/
theorem chg_end {l : List Int} {rows n : Nat} {B : Int} {A : Mat} (h : Chg rows n B (drawnE l rows n) A) (hB : B ≤ 1000000) (h4 : rows ≤ 4) (h1 : 1 ≤ n) (hn4 : n ≤ 4) {s : S} (ho : Out n (drawnE l rows n) (some s)) : SmE n A [] [] [] 5 ∨ ∃ u v, SmE n A (diagOf s) u v 0 := by
  have hv := h.valid hB
  have hc := check_ok h1 (by omega) (by rw [h.rect.1]; omega) hv
  obtain ⟨o, ho'⟩ := out_ex hv
  have e : ((n : Int)).toNat = n := Int.toNat_natCast n
  cases o with
  | none => exact .inl (.inr ⟨hc, .inl ⟨by rw [e]; exact ho', rfl, rfl, rfl, rfl⟩⟩)
  | some s' =>
    have hd := diag_same h.rect.1 (drawnE_length l rows n) h4 hv (drawn_valid l rows n) ho' ho h.same
    exact .inr ⟨s'.u, s'.v, .inr ⟨hc, .inr ⟨s', by rw [e]; exact ho', hd.symm, rfl, rfl, rfl⟩⟩⟩
/-- the products that the minors are held against -/
theorem min_prod {l : List Int} {rows n : Nat} {s : S} (h4 : rows ≤ 4) (ho : Out n (drawnE l rows n) (some s)) :
    (∀ k, k ≤ 4 → minG k (drawnE l rows n) rows n = prodN (dia s) k) ∧ (∀ k, k ≤ 4 → 0 ≤ prodN (dia s) k ∧ prodN (dia s) k ≤ 31104) ∧
      (∀ k, k < (diagOf s).length → prodN (dia s) (k + 1) = prodN (dia s) k * (diagOf s).getD k 0) ∧ (∀ k, (diagOf s).length ≤ k → prodN (dia s) (k + 1) = 0) ∧ (diagOf s).length ≤ 4 ∧ Fits (diagOf s) := by
  have hv := drawn_valid l rows n
  have hl := drawnE_length l rows n
  have he := out_end hv ho
  rw [hl] at he
  have hmin : ∀ k, k ≤ 4 → minG k (drawnE l rows n) rows n = prodN (dia s) k := fun k hk => by
    have := minG_law hk hv ho
    rwa [hl] at this
  refine ⟨hmin, fun k hk => ?_, fun k hk => ?_, fun k hk => ?_, ?_, ?_⟩
  · rw [← hmin k hk]
    have := rowG_le (k := k) (a := drawnE l rows n) (r := rows) (n := n) (fun R C _ _ => subM_det hk (fun i j => by have := (chg_start l rows n).bd i j; omega) R C) (2 ^ rows)
    have h0 := rowG_nonneg (k := k) (a := drawnE l rows n) (r := rows) (n := n) (2 ^ rows)
    unfold minG
    omega
  · rw [length_diagOf] at hk
    rw [diagOf_getD s hk]
    rfl
  · rw [length_diagOf] at hk
    exact prod_zero he (by omega)
  · rw [length_diagOf]
    have := he.tr
    omega
  · intro x hx
    obtain ⟨i, hi, rfl⟩ := List.mem_map.1 hx
    have h2 := fineM_iff.1 he.fa i i
    omega
theorem MatM.base {base base' : Nat} {w : World} {v : Value} {bl cs : Nat → Nat} {m : Mat} (h : MatM base w v bl cs m) (hb : base' ≤ base) : MatM base' w v bl cs m :=
  ⟨owns_base h.out hb, fun i hi => let ⟨a, b, c⟩ := h.row i hi; ⟨Nat.le_trans hb a, b, c⟩, h.inj⟩
theorem MatM.grown {base : Nat} {w w' : World} {v : Value} {bl cs : Nat → Nat} {m : Mat} (h : MatM base w v bl cs m) {b : Nat} {C : Array Value} (hb : w.heap[b]? = some (.cells C 39 (0, 0))) (hg : w.grownBy w' (some b)) : MatM base w' v bl cs m := by
  refine h.same (fun r hr => hg.block r (h.lt.2 r hr).2 (fun e => ?_)) (fun i hi => hg.block _ (h.lt.1 i hi) (fun e => ?_))
  · obtain rfl := Option.some.inj e
    obtain ⟨-, C', hC'⟩ := owns_block h.out _ hr
    rw [hb] at hC'
    injection hC' with h5
    injection h5 with _ h6 _
    exact absurd h6 (by decide)
  · obtain rfl := Option.some.inj e
    obtain ⟨C', hC'⟩ := h.row_ty hi
    rw [hb] at hC'
    injection hC' with h5
    injection h5 with _ h6 _
    exact absurd h6 (by decide)
/-- a taker's box, of a list that lies below -/
def BoxAt (b : Nat) (w : World) (A : Option Addr) (c len k : Nat) : Prop := w.heap[b]? = some (.cells #[.slice A len c, .int .i64 (k : Int)] 39 (0, 0)) ∧ k ≤ len
theorem takeV_bd (l : List Int) (k : Nat) {n : Nat} (hn : 1 ≤ n) : ∃ m : Nat, m < n ∧ takeV l k n = (m : Int) := by
  unfold takeV
  split
  · have h1 := Int.emod_nonneg (l.getD k 0) (show (n : Int) ≠ 0 by omega)
    have h2 := Int.emod_lt_of_pos (l.getD k 0) (show 0 < (n : Int) by omega)
    exact ⟨(l.getD k 0 % n).toNat, by omega, by omega⟩
  · exact ⟨0, by omega, rfl⟩
theorem take_at {w0 : World} {A : Option Addr} {c : Nat} {l : List Int} (hI : IntsAt w0 (.slice A l.length c) l) {b k n : Nat} (hb : w0.heap.size ≤ b) (hn : 1 ≤ n) (hn2 : n ≤ 1000) (W : World) (hW : Below w0.heap.size w0 W) (hbox : BoxAt b W A c l.length k) :
    Calls Try.prog 25 #[.pointer (some ⟨b, 0, none⟩), .int .i64 (n : Int)] W fun e w' => ∃ m k', e = .returned (.int .i64 (m : Nat)) ∧ m < n ∧ Hid (BoxAt b w' A c l.length k' ∧ W.grownBy w' (some b)) := by
  have hT : TkM b W A c l k := ⟨hbox.1, fun w' hw => kept_ints w0 w' _ _ (fun p hp => (hw p (by omega)).trans (hW.block p hp)) hI, hbox.2⟩
  refine (take25_any b W A c l k n hT (by omega) (by omega)).mono fun e w' ⟨he, hT', hg⟩ => ?_
  obtain ⟨m, hm, hv⟩ := takeV_bd l k hn
  exact ⟨m, takeN l k, by rw [he, hv], hm, Lib.hid ⟨⟨hT'.box, hT'.le⟩, hg⟩⟩
end Go.Proofs
namespace Go.Proofs
open Go.RowKit Go.Shelf Go.Proofs.Sm
theorem drawn_mat {w W : World} {A : Option Addr} {c : Nat} {l : List Int} (rows n : Nat) (hI : IntsAt w (.slice A l.length c) l) (hW : Below w.heap.size w W) (hn : 1 ≤ n) (hn2 : n ≤ 4) (hr : rows ≤ 4) : Calls Try.prog 20 #[.pointer (some ⟨W.heap.size, 0, none⟩), .int .i64 (rows : Int), .int .i64 (n : Int)] (W.alloc (.cells #[.slice A l.length c, .int .i64 0] 39)) fun e w' => ∃ A' c' bl cs, e = .returned (.slice A' rows c') ∧ Hid (MatM w.heap.size w' (.slice A' rows c') bl cs (drawnE l rows n) ∧ Below w.heap.size w w') :=
  (drawn20_any W.heap.size rows n (W.alloc (.cells #[.slice A l.length c, .int .i64 0] 39)) A c l (TkM.start (kept_ints.below hI hW)) hn (by omega) (by omega)).mono fun e w' ⟨A', c', bl, cs, he, hM, _, hg⟩ => ⟨A', c', bl, cs, he, Lib.hid ⟨hM.base (Nat.le_trans hW.size (by simp)), hW.trans ((((Below.refl W.heap.size W).alloc (Nat.le_refl _) _).trans (below_gr hg (by simp))).mono hW.size)⟩⟩
/-- the arguments of SmithMinors, cut to size -/
theorem picks4 (x : Int) : ∃ m : Nat, x % 4 = (m : Int) ∧ m ≤ 3 := by
  have h3 := Int.emod_nonneg x (show (4 : Int) ≠ 0 by omega)
  have h4 := Int.emod_lt_of_pos x (show (0 : Int) < 4 by omega)
  exact ⟨(x % 4).toNat, by omega, by omega⟩
set_option maxRecDepth 100000 in
theorem minors_long (w : World) (v1 v2 : Value) (l1 l2 : List Int) (x y : Int) (h1 : IntsAt w v1 l1) (h2 : IntsAt w v2 l2) (hl : 20 < l1.length ∨ 20 < l2.length) : Calls Try.prog 5 #[v1, v2, .int .i64 x, .int .i64 y] w (YesPost w) := by
  have HL := Lib.hid (lives9_any w)
  obtain ⟨A, c, rfl, -, -, -⟩ := h1.open_
  obtain ⟨A2, c2, rfl, -, -, -⟩ := h2.open_
  clear h1 h2
  by_cases ha : 20 < l1.length
  · have hd : (20 : Int) < (l1.length : Int) := by omega
    clear ha hl
    go_enter Try.func5, Try.ntmps5
    go_wp2_with (go_at_call 9; (refine HL.out.mono ?_); rintro e w1 ⟨rfl, hb⟩; have HB := Lib.hid hb; clear hb)
    go_ret
    exact ⟨rfl, HB.out⟩
  · have hb : 20 < l2.length := by omega
    have hd : decide ((20 : Int) < (l1.length : Int)) = false := decide_eq_false (by omega)
    have hd2 : (20 : Int) < (l2.length : Int) := by omega
    clear ha hl hb
    go_enter Try.func5, Try.ntmps5
    go_wp2_with (go_at_call 9; (refine HL.out.mono ?_); rintro e w1 ⟨rfl, hb⟩; have HB := Lib.hid hb; clear hb)
    go_ret
    exact ⟨rfl, HB.out⟩
set_option maxRecDepth 100000 in
set_option maxHeartbeats 2000000 in
theorem minors_five (w : World) (v1 v2 : Value) (l l2 : List Int) (x y : Int) (h1 : IntsAt w v1 l) (h2 : IntsAt w v2 l2) (hx : In64 x) (hy : In64 y) (hl : l.length ≤ 20) (hl2 : l2.length ≤ 20) (rows n p m : Nat) (hxr : x % 4 = (p : Int)) (hym : y % 4 = (m : Int)) (hr : rows = p + 1) (hn : n = m + 1) (hr4 : rows ≤ 4) (hn4 : n ≤ 4) (hE : SmE n (drawnE l rows n) [] [] [] 5) : Calls Try.prog 5 #[v1, v2, .int .i64 x, .int .i64 y] w (YesPost w) := by
  have HL := Lib.hid (lives9_any w)
  have HPX := Lib.hid fun W => pick19_any W x 4 hx (by omega) (by omega)
  have HPY := Lib.hid fun W => pick19_any W y 4 hy (by omega) (by omega)
  rw [hxr] at HPX
  rw [hym] at HPY
  have HN := Lib.hid hn
  have hm0 : (0 : Int) ≤ (m : Int) := Int.natCast_nonneg _
  have hm1 : (m : Int) ≤ 3 := by omega
  have hp0 : (0 : Int) ≤ (p : Int) := Int.natCast_nonneg _
  have hp1 : (p : Int) ≤ 3 := by omega
  have hnm : (1 : Int) + (m : Int) = (n : Int) := by omega
  have hrp : (1 : Int) + (p : Int) = (rows : Int) := by omega
  have hld : (l.length : Int) ≤ 20 := by omega
  have hld2 : (l2.length : Int) ≤ 20 := by omega
  have hd1 : decide ((20 : Int) < (l.length : Int)) = false := decide_eq_false (by omega)
  have hd2 : decide ((20 : Int) < (l2.length : Int)) = false := decide_eq_false (by omega)
  have HI := Lib.hid h1
  have HE := Lib.hid hE
  obtain ⟨A, c, rfl, -, -, -⟩ := h1.open_
  obtain ⟨Ay, cy, rfl, -, -, -⟩ := h2.open_
  have HDR : Hid (∀ W, Below w.heap.size w W → _) := Lib.hid fun W hW => drawn_at rows n HI.out hW (by omega) hn4 hr4
  clear h1 h2 hE hxr hym hn hr
  go_enter Try.func5, Try.ntmps5
  go_wp2_with (first
    | (go_at_call 9; (refine HL.out.mono ?_); rintro e w1 ⟨rfl, hb⟩; have HB := Lib.hid hb; clear hb)
    | (go_at_call 19; (with_reducible refine (HPX.out _).mono ?_); rintro e w' ⟨rfl, rfl⟩)
    | (go_at_call 19; (with_reducible refine (HPY.out _).mono ?_); rintro e w' ⟨rfl, rfl⟩)
    | (go_at_call 20; (refine (HDR.out w1 HB.out).mono ?_); rintro e w2 ⟨A2, c2, rfl, HD⟩; have HS := Lib.hid (smith11_any w2 n _ _ HD.out.1 HE.out))
    | (go_at_call 11; (refine HS.out.mono ?_); rintro e w3 ⟨⟨vd, vu, vv, rfl, hd, hu, hv⟩, hb⟩; obtain ⟨Ad, cd, rfl, -, -, -⟩ := id hd.open_; obtain ⟨Au, cu, rfl, -, -, -⟩ := LAt.open_ hu; obtain ⟨Av, cv, rfl, -, -, -⟩ := LAt.open_ hv; have HB3 := Lib.hid (HD.out.2.trans (hb.mono HD.out.2.size)); clear hd hu hv hb))
  go_ret
  exact ⟨rfl, HB3.out⟩
end Go.Proofs
