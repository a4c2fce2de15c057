/- cayleyref18.Check and Complete; The state of coset.Standard: the map of numbers, the order, the rows; its steps, as equations on runs; Rows of the call's own that grow; a list of numbers in one block; cayleyref18.Complete. -/
import Derived.Test.YtmpnengjboabcaaGreatRgCS3
import Derived.Test.YtmpnengjboabcaaGreatRgCS1
import Derived.Test.YtmpnengjboabcaaGreatRgCS2
namespace Go.Proofs
open Go.RowKit Go.Shelf Go.Proofs.Ct
def CheckPostQ (g : Int) (t : Tb) (w : World) (e : Ending) (w' : World) : Prop := e = .returned (.tuple #[.int .i64 (check g t).1, .int .i64 (check g t).2]) ∧ ∃ q, w' = w.drewN q
set_option maxRecDepth 100000 in
set_option maxHeartbeats 2000000 in
theorem check44_any (w : World) (v : Value) (g : Int) (t : Tb) (ht : Tab w v t) : Calls Tryz.prog 96 #[.int .i64 g, v] w (CheckPostQ g t w) := by
  obtain ⟨A, c, rfl, hc1, hc2, hc⟩ := ht.open_
  have HC := Lib.hid hc
  clear hc ht
  by_cases hw : wide g t = true
  · have HCW : Hid (check g t = (2, -1)) := Lib.hid (by unfold check; rw [if_pos hw])
    have hw' : g < 1 ∨ 16 < g ∨ t.length < 1 ∨ 20000 < t.length := by
      unfold wide at hw
      simp only [Bool.or_eq_true, decide_eq_true_eq] at hw
      omega
    clear hw
    by_cases h1 : g < 1
    · go_enter Tryz.func96, Tryz.ntmps96
      go_wp2_with fail
      go_ret2
      exact ⟨ret_pair (by rw [HCW.out]) (by rw [HCW.out]), 0, rfl⟩
    · by_cases h2 : 16 < g
      · go_enter Tryz.func96, Tryz.ntmps96
        go_wp2_with fail
        go_ret2
        exact ⟨ret_pair (by rw [HCW.out]) (by rw [HCW.out]), 0, rfl⟩
      · by_cases h3 : t.length < 1
        · have d3 : ((t.length : Int) < 1) := by omega
          go_enter Tryz.func96, Tryz.ntmps96
          go_wp2_with fail
          go_ret2
          exact ⟨ret_pair (by rw [HCW.out]) (by rw [HCW.out]), 0, rfl⟩
        · have d3 : ¬ ((t.length : Int) < 1) := by omega
          have d4 : (20000 < (t.length : Int)) := by omega
          go_enter Tryz.func96, Tryz.ntmps96
          go_wp2_with fail
          go_ret2
          exact ⟨ret_pair (by rw [HCW.out]) (by rw [HCW.out]), 0, rfl⟩
  · have hw' : 1 ≤ g ∧ g ≤ 16 ∧ 1 ≤ t.length ∧ t.length ≤ 20000 := by
      unfold wide at hw
      simp only [Bool.or_eq_true, decide_eq_true_eq] at hw
      omega
    obtain ⟨g1, g2, n1, n2⟩ := hw'
    have HNW := Lib.hid (Bool.eq_false_iff.2 hw)
    clear hw
    have n3 : (1 : Int) ≤ (t.length : Int) := by omega
    have n4 : (t.length : Int) ≤ 20000 := by omega
    obtain ⟨b, off, rfl, hcell⟩ := HC.out (by omega)
    have HCELL := Lib.hid hcell
    clear hcell HC
    go_enter Tryz.func96, Tryz.ntmps96
    go_wp2_with fail
    go_loopw [6] (fun i wr => ∃ k : Nat, k ≤ t.length ∧ i = .int .i64 k ∧ (∀ j, j < k → rowBad g t.length (t.row j) = false) ∧ ∃ q, wr = w.drewN q) (fun i _ => t.length - (intOf i).toNat)
    case atStart => exact ⟨0, Nat.zero_le _, rfl, fun j hj => absurd hj (by omega), 0, rfl⟩
    case round =>
      obtain ⟨k, hk, rfl, hz, q, rfl⟩ := hrel
      have HZ := Lib.hid hz
      clear hz
      have hk0 : (0 : Int) ≤ (k : Int) := Int.natCast_nonneg _
      by_cases hlt : k < t.length
      · have hlt' : (k : Int) < (t.length : Int) := by omega
        obtain ⟨u, hu, hI⟩ := HCELL.out k hlt
        have hI2 : IntsAt w u (t.row k) := hI
        clear hI
        obtain ⟨A2, c2, rfl, hd1, hd2, hd⟩ := hI2.open_
        by_cases hlen : ((t.row k).length : Int) = 2 * g
        · have d1 : (((t.row k).length : Int) != 2 * g) = false := by simpa using hlen
          have HRB := Lib.hid (rowBad_of (n := (t.length : Int)) hlen)
          have HC3 : Hid (rowOut t.length (t.row k) = true → check g t = (2, (k : Int))) := Lib.hid fun h => by
            rw [check_row HNW.out hlt HZ.out (by rw [HRB.out]; exact h), if_neg (by simpa using hlen)]
          obtain ⟨b2, o2, rfl, hd'⟩ := hd (by omega)
          have HD := Lib.hid hd'
          have HF := Lib.hid hI2.2
          clear hd' hd hI2
          have HL := Lib.hid hlen
          clear hlen
          go_wp2_with fail
          go_loopw [7] (fun i wr => ∃ j : Nat, j ≤ (t.row k).length ∧ i = .int .i64 j ∧ (∀ i, i < j → -1 ≤ (t.row k).getD i 0 ∧ (t.row k).getD i 0 < t.length) ∧ ∃ q, wr = w.drewN q) (fun i _ => (t.row k).length - (intOf i).toNat)
          case atStart => exact ⟨0, Nat.zero_le _, rfl, fun j hj => absurd hj (by omega), q, rfl⟩
          case round =>
            obtain ⟨j, hj, rfl, hzj, qj, rfl⟩ := hrel
            have HZJ := Lib.hid hzj
            clear hzj
            have hj0 : (0 : Int) ≤ (j : Int) := Int.natCast_nonneg _
            by_cases hjl : j < (t.row k).length
            · have hx := HD.out j hjl
              have hjl' : (j : Int) < ((t.row k).length : Int) := by omega
              have HT : Hid ((t.row k).getD j 0 < -1 ∨ (t.length : Int) ≤ (t.row k).getD j 0 → check g t = (2, (k : Int))) := Lib.hid fun h => HC3.out (rowOut_true hjl h)
              have HG : Hid (-1 ≤ (t.row k).getD j 0 ∧ (t.row k).getD j 0 < t.length → ∀ i, i < j + 1 → -1 ≤ (t.row k).getD i 0 ∧ (t.row k).getD i 0 < t.length) := Lib.hid fun h => all_succ HZJ.out h
              have hI : -9223372036854775808 ≤ (t.row k).getD j 0 ∧ (t.row k).getD j 0 ≤ 9223372036854775807 := Fits.at_ HF.out j
              generalize (t.row k).getD j 0 = s at *
              obtain ⟨hI1, hI3⟩ := hI
              by_cases h1 : s < -1
              · have HZ1 := Lib.hid (HT.out (.inl h1))
                go_wp2_with fail
                go_ret2
                exact ⟨ret_pair (by rw [HZ1.out]) (by rw [HZ1.out]), _, rfl⟩
              · by_cases h2 : (t.length : Int) ≤ s
                · have HZ1 := Lib.hid (HT.out (.inr h2))
                  go_wp2_with fail
                  go_ret2
                  exact ⟨ret_pair (by rw [HZ1.out]) (by rw [HZ1.out]), _, rfl⟩
                · go_wp2_with fail
                  go_roundw
                  case rel => exact ⟨j + 1, by omega, by go_num, HG.out ⟨by omega, by omega⟩, _, rfl⟩
                  case measure => simp [intOf]; omega
            · obtain rfl : j = (t.row k).length := by omega
              go_wp2_with fail
              go_roundw
              case rel => exact ⟨k + 1, by omega, by go_num, all_succ HZ.out (by rw [HRB.out]; exact rowOut_false' HZJ.out), _, rfl⟩
              case measure => simp [intOf]; omega
        · have d1 : (((t.row k).length : Int) != 2 * g) = true := by simpa using hlen
          have HC2 : Hid (check g t = (3, (k : Int))) := Lib.hid (by rw [check_row HNW.out hlt HZ.out (rowBad_len hlen), if_pos hlen])
          have HL := Lib.hid hlen
          clear hlen hd hI2
          go_wp2_with fail
          go_ret2
          exact ⟨ret_pair (by rw [HC2.out]) (by rw [HC2.out]), _, rfl⟩
      · obtain rfl : k = t.length := by omega
        have HR := HZ
        have HLEN : Hid (∀ r, r < t.length → ((t.row r).length : Int) = 2 * g ∧ ∀ c, c < (t.row r).length → -1 ≤ t.at r c ∧ t.at r c < t.length) := Lib.hid fun r hr => by
          have h1 := HR.out r hr
          unfold rowBad at h1
          rw [Bool.or_eq_false_iff] at h1
          exact ⟨by simpa using h1.1, rowOut_false h1.2⟩
        clear HZ
        go_wp2_with fail
        go_loopw [8] (fun i wr => ∃ k : Nat, k ≤ t.length ∧ i = .int .i64 k ∧ (∀ j, j < k → sumBad t (2 * g).toNat j = false) ∧ ∃ q, wr = w.drewN q) (fun i _ => t.length - (intOf i).toNat)
        case atStart => exact ⟨0, Nat.zero_le _, rfl, fun j hj => absurd hj (by omega), q, rfl⟩
        case round =>
          clear q
          obtain ⟨k, hk, rfl, hz, q, rfl⟩ := hrel
          have HZ := Lib.hid hz
          clear hz
          have hk0 : (0 : Int) ≤ (k : Int) := Int.natCast_nonneg _
          by_cases hlt : k < t.length
          · have hlt' : (k : Int) < (t.length : Int) := by omega
            obtain ⟨u, hu, hI⟩ := HCELL.out k hlt
            have hI2 : IntsAt w u (t.row k) := hI
            clear hI
            obtain ⟨A2, c2, rfl, hd1, hd2, hd⟩ := hI2.open_
            have hl2 := (HLEN.out k hlt).1
            obtain ⟨b2, o2, rfl, hd'⟩ := hd (by omega)
            have HD2 := Lib.hid hd'
            clear hd' hd hI2
            have HL2 := Lib.hid hl2
            clear hl2
            go_wp2_with fail
            go_loopw [9] (fun i wr => ∃ c0 : Nat, (c0 : Int) ≤ 2 * g ∧ i = .int .i64 c0 ∧ (∀ j, j < c0 → sumAt t k j = false) ∧ ∃ q, wr = w.drewN q) (fun i _ => (2 * g).toNat - (intOf i).toNat)
            case atStart => exact ⟨0, by omega, rfl, fun j hj => absurd hj (by omega), q, rfl⟩
            case round =>
              obtain ⟨j, hj, rfl, hzj, qj, rfl⟩ := hrel
              have HZJ := Lib.hid hzj
              clear hzj
              have hj0 : (0 : Int) ≤ (j : Int) := Int.natCast_nonneg _
              by_cases hjl : (j : Int) < 2 * g
              · have hjl2 : j < (t.row k).length := by have := HL2.out; omega
                have hjl3 : (j : Int) < ((t.row k).length : Int) := by omega
                have hx := HD2.out j hjl2
                have hbd := (HLEN.out k hlt).2 j hjl2
                have HSA : Hid (sumAt t k j = (decide (0 ≤ t.at k j) && decide (t.at (t.at k j).toNat (flp j) ≠ (k : Int)))) := Lib.hid rfl
                have hat : (t.row k).getD j 0 = t.at k j := rfl
                rw [hat] at hx
                clear hat
                generalize t.at k j = s at *
                by_cases hs : s < 0
                · have HS : Hid (sumAt t k j = false) := Lib.hid (by rw [HSA.out]; simp; omega)
                  go_wp2_with fail
                  go_roundw
                  case rel => exact ⟨j + 1, by omega, by go_num, all_succ HZJ.out HS.out, _, rfl⟩
                  case measure => simp [intOf]; omega
                · obtain ⟨s', rfl⟩ := Int.eq_ofNat_of_zero_le (by omega : 0 ≤ s)
                  have hs' : s' < t.length := by omega
                  obtain ⟨u3, hu3, hI3⟩ := HCELL.out s' hs'
                  have hI4 : IntsAt w u3 (t.row s') := hI3
                  clear hI3
                  obtain ⟨A3, c3, rfl, he1, he2, he⟩ := hI4.open_
                  have hl4 := (HLEN.out s' hs').1
                  obtain ⟨b3, o3, rfl, he'⟩ := he (by omega)
                  have hfl : flp j < (t.row s').length := by
                    have := flp_lt (c := j) (m := g.toNat) (by omega)
                    omega
                  have hy := he' (flp j) hfl
                  have hfe := flp_eq j (by omega)
                  have hf0 : (0 : Int) ≤ ((flp j : Nat) : Int) := Int.natCast_nonneg _
                  have hf1 : ((flp j : Nat) : Int) < ((t.row s').length : Int) := by omega
                  clear he' he hI4
                  have hat2 : (t.row s').getD (flp j) 0 = t.at s' (flp j) := rfl
                  rw [hat2] at hy
                  have HS2 : Hid (sumAt t k j = decide (t.at s' (flp j) ≠ (k : Int))) := Lib.hid (by rw [HSA.out]; simp)
                  clear hat2
                  generalize t.at s' (flp j) = x at *
                  have hs0 : (0 : Int) ≤ (s' : Int) := Int.natCast_nonneg _
                  have hs1 : (s' : Int) < (t.length : Int) := by omega
                  have HL4 := Lib.hid hl4
                  clear hl4
                  by_cases hxk : x = (k : Int)
                  · have d5 : (x != (k : Int)) = false := by simpa using hxk
                    have HXK : Hid (sumAt t k j = false) := Lib.hid (by rw [HS2.out]; simpa using hxk)
                    clear hxk
                    go_wp2_with fail
                    go_roundw
                    case rel => exact ⟨j + 1, by omega, by go_num, all_succ HZJ.out HXK.out, _, rfl⟩
                    case measure => simp [intOf]; omega
                  · have d5 : (x != (k : Int)) = true := by simpa using hxk
                    have HXK : Hid (sumAt t k j = true) := Lib.hid (by rw [HS2.out]; simpa using hxk)
                    have HC4 : Hid (check g t = (14, (k : Int))) := Lib.hid (check_sum HNW.out HR.out hlt HZ.out (sumBad_true (by omega) HXK.out))
                    clear hxk
                    go_wp2_with fail
                    go_ret2
                    exact ⟨ret_pair (by rw [HC4.out]) (by rw [HC4.out]), _, rfl⟩
              · have hjm : (2 * g).toNat = j := by omega
                have HJM := Lib.hid hjm
                clear hjm
                go_wp2_with fail
                go_roundw
                case rel => exact ⟨k + 1, by omega, by go_num, all_succ HZ.out (sumBad_false fun c0 hc0 => HZJ.out c0 (by have := HJM.out; omega)), _, rfl⟩
                case measure => simp [intOf]; omega
          · obtain rfl : k = t.length := by omega
            go_wp2_with fail
            go_ret2
            exact ⟨ret_pair (by rw [check_fine HNW.out HR.out HZ.out]) (by rw [check_fine HNW.out HR.out HZ.out]), _, rfl⟩
end Go.Proofs
namespace Go.Proofs
open Go.RowKit Go.Shelf Go.Proofs.Ct Go.Maps
def I64 (x : Int) : Prop := -9223372036854775808 ≤ x ∧ x ≤ 9223372036854775807
def MapI (w : World) (b : Nat) (l : List Int) : Prop :=
  ∃ n D, n ≤ l.length ∧ w.ownsMap (H := Unit) Tryz.prog 3 (plainElem Tryz.prog 3) b n D ∧
    ∀ s, I64 s → Maps.has D (.int .i64 s) = l.contains s ∧ (s ∈ l → D.atKey (.int .i64 s) (.lit (.int .i64 0)) = .lit (.int .i64 (numOf l s)))
theorem zero3 (w : World) : (zeroValue 3).run Tryz.prog w = .ok (.int .i64 0) w := by kernel_rfl
theorem key3 {s : Int} (h : I64 s) : keyOf Tryz.prog 3 (.int .i64 s) = some (.int .i64 s) := keyOf_int_mk Tryz.underlying3 (WalkArith.wf_i64 h)
theorem MapI.made (w : World) : MapI (w.alloc (.map #[] 0)) w.heap.size [] :=
  ⟨0, .map [], Nat.le_refl _, World.ownsMap_made _ _ _ _, fun s _ => ⟨by simp [Maps.has], fun h => by cases h⟩⟩
theorem MapI.kept {w w' : World} {b : Nat} {l : List Int} {row : Option Nat} (h : MapI w b l) (hg : w.grownBy w' row) (hne : row ≠ some b) : MapI w' b l := by
  obtain ⟨n, D, h1, h2, h3⟩ := h
  exact ⟨n, D, h1, h2.kept hg (Ne.symm hne), h3⟩
theorem MapI.isMapObj {w : World} {b : Nat} {l : List Int} (h : MapI w b l) : ∃ es clock, w.heap[b]? = some (.map es clock) := by
  obtain ⟨n, D, h1, ⟨es, clock, hb, -⟩, h3⟩ := h
  exact ⟨es, clock, hb⟩
theorem MapI.look_ok {w : World} {b : Nat} {l : List Int} (h : MapI w b l) {s : Int} (hs : I64 s) : ∃ c : Int, (Instr.lookup 111 (.map (some b)) (.int .i64 s) true).run Tryz.prog w = .ok (.tuple #[.int .i64 c, .bool (l.contains s)]) w := by
  obtain ⟨n, D, h1, h2, h3⟩ := h
  obtain ⟨v, ps, hr, hv⟩ := h2.look_ok (int_keyed Tryz.underlying3) Tryz.underlying111 (zero3 w) (plainElem_int Tryz.underlying3 (by decide)) (key3 hs)
  obtain ⟨c, rfl, hc, hwc⟩ := plainElem_int_inv Tryz.underlying3 hv
  rw [(h3 s hs).1] at hr
  exact ⟨c, hr⟩
theorem MapI.look {w : World} {b : Nat} {l : List Int} (h : MapI w b l) {s : Int} (hs : I64 s) (hm : s ∈ l) : (Instr.lookup 111 (.map (some b)) (.int .i64 s) false).run Tryz.prog w = .ok (.int .i64 (numOf l s)) w := by
  obtain ⟨n, D, h1, h2, h3⟩ := h
  obtain ⟨c, hr, hat, -⟩ := h2.lookup_int (int_keyed Tryz.underlying3) Tryz.underlying111 Tryz.underlying3 (zero3 w) (key3 hs)
  rw [(h3 s hs).2 hm] at hat
  have : numOf l s = c := by simpa using hat
  rw [this]
  exact hr
theorem MapI.put {w : World} {b : Nat} {l : List Int} (h : MapI w b l) {s : Int} (hs : I64 s) (hl : l.length ≤ 100000) (hn : s ∉ l) :
    ∃ w', (Instr.mapUpdate 111 (.map (some b)) (.int .i64 s) (.int .i64 (l.length : Int))).run Tryz.prog w = .ok () w' ∧ MapI w' b (l ++ [s]) ∧ w.grownBy w' (some b) := by
  obtain ⟨n, D, h1, h2, h3⟩ := h
  obtain ⟨w', hr, ho, hg⟩ := h2.update (val := .int .i64 (l.length : Int)) (int_keyed Tryz.underlying3) Tryz.underlying111 (by unfold maxLen; omega) (key3 hs) (plainElem_int Tryz.underlying3 (WalkArith.wf_i64 (by omega)))
  refine ⟨w', hr, ⟨n + 1, _, by simp; omega, ho, fun x hx => ?_⟩, hg⟩
  by_cases e : x = s
  · subst e
    have hkl : WideAt.IsKeyLit (Lit.int .i64 x) := by simp [WideAt.IsKeyLit]
    rw [Maps.has_put_same h2.isMap hkl]
    refine ⟨by simp, fun _ => ?_⟩
    rw [Maps.atKey_put_same h2.isMap hkl]
    rw [numOf_new hn (List.prefix_refl _)]
  · have hne : (Lit.int .i64 x) ≠ (Lit.int .i64 s) := fun h => e (by simpa using h)
    rw [Maps.has_put_other hne, (h3 x hx).1]
    refine ⟨by simp [e], fun hm => ?_⟩
    have hm' : x ∈ l := by
      rcases List.mem_append.1 hm with h | h
      · exact h
      · exact absurd (by simpa using h) e
    rw [Maps.atKey_put_other hne, (h3 x hx).2 hm', idxOf_pre (List.prefix_append _ _) hm']
section
variable {o : Oper} {a : Act} {w w' : World} {ops : Array Oper} {rest : List Oper} {Q : Exit → Act → World → Prop}
theorem wpList_selMu (T : TypeId) (x y z : Nat) {t : TypeId} {p : String} {af : Array Edge} {g : Option (Nat × Bool)} (h : wpList Tryz.prog ops Q (⟨none, .mapUpdate T (.tmp x) (.tmp y) (.tmp z), t, p, af, g⟩ :: rest) a w) : wpList Tryz.prog ops Q (⟨none, .mapUpdate T (.tmp x) (.tmp y) (.tmp z), t, p, af, g⟩ :: rest) a w := h
theorem wpList_selIns (T : TypeId) (x y : Nat) (z : Value) {t : TypeId} {p : String} {af : Array Edge} {g : Option (Nat × Bool)} (h : wpList Tryz.prog ops Q (⟨none, .insert T (.tmp x) (.tmp y) (.const z), t, p, af, g⟩ :: rest) a w) : wpList Tryz.prog ops Q (⟨none, .insert T (.tmp x) (.tmp y) (.const z), t, p, af, g⟩ :: rest) a w := h
theorem r_mu {mv kv xv : Value} (T : TypeId) (m k x : Operand) (ho : o.op = .mapUpdate T m k x) (hm : a.eval m = mv) (hk : a.eval k = kv) (hx : a.eval x = xv) (hr : (Instr.mapUpdate T mv kv xv).run Tryz.prog w = .ok () w') : (execOp a.eval o).run Tryz.prog w = .ok .skip w' := by
  unfold execOp
  simp only [ho, hm, hk, hx, Sem.run_bind, hr, Result.andThen_ok]
  rfl
theorem r_ins {mv kv xv : Value} (T : TypeId) (m k x : Operand) (ho : o.op = .insert T m k x) (hm : a.eval m = mv) (hk : a.eval k = kv) (hx : a.eval x = xv) (hr : (Instr.mapUpdate T mv kv xv).run Tryz.prog w = .ok () w') : (execOp a.eval o).run Tryz.prog w = .ok .skip w' := by
  unfold execOp
  simp only [ho, hm, hk, hx, Sem.run_bind, hr, Result.andThen_ok]
  rfl
theorem r_look {mv kv v : Value} {c : Bool} (T : TypeId) (m k : Operand) (ho : o.op = .lookup T m k c) (hm : a.eval m = mv) (hk : a.eval k = kv) (hr : (Instr.lookup T mv kv c).run Tryz.prog w = .ok v w') : (execOp a.eval o).run Tryz.prog w = .ok (.value v) w' := by
  unfold execOp
  simp only [ho, hm, hk, Sem.run_bind, hr, Result.andThen_ok]
  rfl
theorem r_make {lv cv v : Value} (T : TypeId) (l c : Operand) (ho : o.op = .makeSlice T l c) (hl : a.eval l = lv) (hc : a.eval c = cv) (hr : (Instr.makeSlice T lv cv).run Tryz.prog w = .ok v w') : (execOp a.eval o).run Tryz.prog w = .ok (.value v) w' := by
  unfold execOp
  simp only [ho, hl, hc, Sem.run_bind, hr, Result.andThen_ok]
  rfl
end
structure StdSt (bm : Nat) (F : Nat → Prop) (w0 wr : World) (vo vout : Value) (o : List Int) (rows : Tb) : Prop where
  below : Below w0.heap.size w0 wr
  bm0 : w0.heap.size ≤ bm
  map : MapI wr bm o
  ord : OwnI w0.heap.size wr vo o
  out : OwnT 22 w0.heap.size F wr vout rows
  fs : ∀ k, F k → w0.heap.size ≤ k ∧ k < wr.heap.size ∧ vo.ownBlock ≠ some k ∧ ∃ C, wr.heap[k]? = some (.cells C 3 (0, 0))
structure StdSt2 (bm : Nat) (F : Nat → Prop) (w0 wr : World) (vo vout vr : Value) (o : List Int) (rows : Tb) (x : List Int) : Prop where
  st : StdSt bm F w0 wr vo vout o rows
  row : OwnI w0.heap.size wr vr x
  ap : ∀ r, vr.ownBlock = some r → vo.ownBlock ≠ some r ∧ ¬ F r
theorem grown_cells {w w' : World} {row : Option Nat} (hg : w.grownBy w' row) {k : Nat} {ob : Obj} (h : w.heap[k]? = some ob) (hne : row ≠ some k) : w'.heap[k]? = some ob :=
  (hg.block k (Array.getElem?_eq_some_iff.1 h).1 (Ne.symm hne)).trans h
theorem OwnT.block {e : TypeId} {base : Nat} {F : Nat → Prop} {w : World} {v : Value} {xs : List (List Int)} (h : OwnT e base F w v xs) : ∀ r, v.ownBlock = some r → base ≤ r ∧ ∃ C, w.heap[r]? = some (.cells C e (0, 0)) := let ⟨_, h1, _⟩ := h; owns_block h1
theorem StdSt.grown {bm : Nat} {F : Nat → Prop} {w0 wr w' : World} {vo vout : Value} {o : List Int} {rows : Tb} {row : Option Nat} (h : StdSt bm F w0 wr vo vout o rows) (hg : wr.grownBy w' row)
    (h0 : ∀ r, row = some r → w0.heap.size ≤ r ∧ vo.ownBlock ≠ some r ∧ ¬ F r ∧ vout.ownBlock ≠ some r ∧ r ≠ bm) : StdSt bm F w0 w' vo vout o rows := by
  have hob := owns_block h.ord
  have hub := h.out.block
  refine ⟨h.below.grown hg h.below.size (fun k hk => (h0 k hk).1), h.bm0, h.map.kept hg (fun e => (h0 _ e).2.2.2.2 rfl), owns_keep h.ord fun r hr => ?_, h.out.keep (fun r hr => ?_) (Ag.grown hg fun k hk => ⟨(h.fs k hk).2.1, fun e => (h0 _ e).2.2.1 hk⟩) (fun _ h => h), fun k hk => ?_⟩
  · exact hg.block r (owns_lt h.ord hr) (fun e => (h0 r e.symm).2.1 hr)
  · obtain ⟨-, C, hC⟩ := hub r hr
    exact hg.block r (Array.getElem?_eq_some_iff.1 hC).1 (fun e => (h0 r e.symm).2.2.2.1 hr)
  · obtain ⟨h1, h2, h3, C, hC⟩ := h.fs k hk
    exact ⟨h1, Nat.lt_of_lt_of_le h2 hg.size, h3, C, grown_cells hg hC (fun e => (h0 _ e).2.2.1 hk)⟩
theorem StdSt.start {bm : Nat} {F : Nat → Prop} {w0 wr : World} {vo vout : Value} {o : List Int} {rows : Tb} (h : StdSt bm F w0 wr vo vout o rows) (g : Nat) (hg16 : g ≤ 16) :
    ∃ A c w', (Instr.makeSlice 22 (.int .i64 0) (.int .i64 (2 * (g : Int)))).run Tryz.prog wr = .ok (.slice A 0 c) w' ∧ StdSt2 bm F w0 w' vo vout (.slice A 0 c) o rows [] := by
  obtain ⟨i, hi, hz, hs, hb⟩ := info3p
  obtain ⟨w', hr, ho, hg⟩ := run_make_own (P := Tryz.prog) wr w0.heap.size 22 3 i (.int .i64 0) 1 Tryz.underlying22 hi hz hs .i64 .i64 (2 * g) (by rw [hb]; omega) (by unfold maxLen; omega) h.below.size
  have hr' : (Instr.makeSlice 22 (.int .i64 0) (.int .i64 (2 * (g : Int)))).run Tryz.prog wr = .ok (.slice (some ⟨wr.heap.size, 0, none⟩) 0 (2 * g)) w' := by
    rw [show (2 * (g : Int)) = ((2 * g : Nat) : Int) by omega]
    exact hr
  refine ⟨_, _, w', hr', h.grown hg (fun r hr => by cases hr), ho, fun r hr => ?_⟩
  have hr2 : wr.heap.size = r := Option.some.inj hr
  subst hr2
  refine ⟨fun e => ?_, fun e => ?_⟩
  · exact absurd (owns_lt h.ord e) (Nat.lt_irrefl _)
  · exact absurd (h.fs _ e).2.1 (Nat.lt_irrefl _)
theorem StdSt2.add {bm : Nat} {F : Nat → Prop} {w0 wr : World} {vo vout vr : Value} {o : List Int} {rows : Tb} {x : List Int} (h : StdSt2 bm F w0 wr vo vout vr o rows x) (z : Int) (hx : x.length ≤ 100000) :
    ∃ A' c' w', (Builtin.append_ #[22, 22] 22 #[vr, .slice (some ⟨wr.heap.size, 0, none⟩) 1 1]).run Tryz.prog (wr.alloc (.cells #[.int .i64 z] 3)) = .ok (.slice A' (x.length + 1) c') w' ∧ StdSt2 bm F w0 w' vo vout (.slice A' (x.length + 1) c') o rows (x ++ [z]) := by
  obtain ⟨A', c', w', hr, ho, hg, hw⟩ := push_int 22 22 Tryz.underlying22 wr w0.heap.size vr x h.row z (by omega) h.st.below.size
  have hrb := owns_block h.row
  have hst : StdSt bm F w0 w' vo vout o rows := h.st.grown hg fun r hr => by
    obtain ⟨h1, C, hC⟩ := hrb r hr
    refine ⟨h1, (h.ap r hr).1, (h.ap r hr).2, fun e => ?_, fun e => ?_⟩
    · obtain ⟨-, C', hC'⟩ := h.st.out.block r e
      rw [hC] at hC'; cases hC'
    · subst e
      obtain ⟨es, cl, hm⟩ := h.st.map.isMapObj
      rw [hC] at hm; cases hm
  refine ⟨A', c', w', hr, hst, ho, fun r hr => ?_⟩
  rcases hw with hw | ⟨r', hr', hge⟩
  · rw [hw] at hr
    exact h.ap r hr
  · have e : r' = r := by rw [hr'] at hr; exact Option.some.inj hr
    subst e
    exact ⟨fun e => absurd (owns_lt h.st.ord e) (by omega), fun e => absurd (h.st.fs _ e).2.1 (by omega)⟩
theorem StdSt2.visit {bm : Nat} {F : Nat → Prop} {w0 wr : World} {vo vout vr : Value} {o : List Int} {rows : Tb} {x : List Int} (h : StdSt2 bm F w0 wr vo vout vr o rows x) {s : Int} (hs : I64 s) (hn : s ∉ o) (ho : o.length ≤ 100000) :
    ∃ wm A' c' w', (Instr.mapUpdate 111 (.map (some bm)) (.int .i64 s) (.int .i64 (o.length : Int))).run Tryz.prog wr = .ok () wm ∧
      (Builtin.append_ #[22, 22] 22 #[vo, .slice (some ⟨wm.heap.size, 0, none⟩) 1 1]).run Tryz.prog (wm.alloc (.cells #[.int .i64 s] 3)) = .ok (.slice A' (o.length + 1) c') w' ∧
      StdSt2 bm F w0 w' (.slice A' (o.length + 1) c') vout vr (o ++ [s]) rows x := by
  obtain ⟨wm, hrm, hmm, hgm⟩ := h.st.map.put hs ho hn
  obtain ⟨es, cl, hmo⟩ := h.st.map.isMapObj
  have hne : ∀ {k : Nat} {C : Array Value} {e : TypeId} {fr : Nat × Nat}, wr.heap[k]? = some (.cells C e fr) → (some bm : Option Nat) ≠ some k := fun {k C e fr} hc e' => by
    have : bm = k := Option.some.inj e'
    subst this
    rw [hmo] at hc; cases hc
  have hob := owns_block h.st.ord
  have hrb := owns_block h.row
  have hub := h.st.out.block
  have horm : OwnI w0.heap.size wm vo o := owns_keep h.st.ord fun r hr => by
    obtain ⟨-, C, hC⟩ := hob r hr
    exact (grown_cells hgm hC (hne hC)).trans hC.symm
  have hbm : Below w0.heap.size w0 wm := h.st.below.grown hgm h.st.below.size (fun k hk => by cases hk; exact h.st.bm0)
  obtain ⟨A', c', w', hr, ho', hg, hw⟩ := push_int 22 22 Tryz.underlying22 wm w0.heap.size vo o horm s (by omega) hbm.size
  have hgo : ∀ {k : Nat}, vo.ownBlock = some k → k ≠ bm := fun {k} hk e => by
    subst e
    obtain ⟨-, C, hC⟩ := hob _ hk
    rw [hmo] at hC; cases hC
  refine ⟨wm, A', c', w', hrm, hr, ⟨hbm.grown hg hbm.size (fun k hk => (hob k hk).1), h.st.bm0, hmm.kept hg (fun e => hgo e rfl), ho', ?_, fun k hk => ?_⟩, ?_, fun r hr => ?_⟩
  · refine h.st.out.keep (fun r hr => ?_) (fun k hk => ?_) (fun _ h => h)
    · obtain ⟨-, C, hC⟩ := hub r hr
      have h1 := grown_cells hgm hC (hne hC)
      refine (grown_cells hg h1 (fun e => ?_)).trans hC.symm
      obtain ⟨-, C', hC'⟩ := hob r e
      rw [hC] at hC'; cases hC'
    · obtain ⟨h1, h2, h3, C, hC⟩ := h.st.fs k hk
      exact (grown_cells hg (grown_cells hgm hC (hne hC)) (fun e => h3 e)).trans hC.symm
  · obtain ⟨h1, h2, h3, C, hC⟩ := h.st.fs k hk
    refine ⟨h1, Nat.lt_of_lt_of_le h2 (Nat.le_trans hgm.size hg.size), fun e => ?_, C, grown_cells hg (grown_cells hgm hC (hne hC)) (fun e => h3 e)⟩
    rcases hw with hw | ⟨r', hr', hge⟩
    · exact h3 (hw.symm.trans e)
    · rw [hr'] at e
      have : r' = k := Option.some.inj e
      have := hgm.size
      omega
  · exact owns_keep h.row fun r hr => by
      obtain ⟨-, C, hC⟩ := hrb r hr
      exact (grown_cells hg (grown_cells hgm hC (hne hC)) (fun e => (h.ap r hr).1 e)).trans hC.symm
  · refine ⟨fun e => ?_, (h.ap r hr).2⟩
    rcases hw with hw | ⟨r', hr', hge⟩
    · exact (h.ap r hr).1 (hw.symm.trans e)
    · rw [hr'] at e
      have : r' = r := Option.some.inj e
      have := owns_lt h.row hr
      have := hgm.size
      omega
theorem StdSt2.done {bm : Nat} {F : Nat → Prop} {w0 wr : World} {vo vout : Value} {A : Option Addr} {c : Nat} {o : List Int} {rows : Tb} {x : List Int} (h : StdSt2 bm F w0 wr vo vout (.slice A x.length c) o rows x) (hf : Fits x) (hl : rows.length ≤ 100000) :
    ∃ A' c' w', (Builtin.append_ #[29, 29] 29 #[vout, .slice (some ⟨wr.heap.size, 0, none⟩) 1 1]).run Tryz.prog (wr.alloc (.cells #[.slice A x.length c] 22)) = .ok (.slice A' (rows.length + 1) c') w' ∧
      StdSt bm (fun k => F k ∨ (Value.slice A x.length c).ownBlock = some k) w0 w' vo (.slice A' (rows.length + 1) c') o (rows ++ [x]) := by
  have hub := h.st.out.block
  have hrb := owns_block h.row
  have hob := owns_block h.st.ord
  have hF2 : ∀ k, (F k ∨ (Value.slice A x.length c).ownBlock = some k) → k < wr.heap.size ∧ vout.ownBlock ≠ some k := fun k hk => by
    rcases hk with hk | hk
    · obtain ⟨h1, h2, h3, C, hC⟩ := h.st.fs k hk
      refine ⟨h2, fun e => ?_⟩
      obtain ⟨-, C', hC'⟩ := hub k e
      rw [hC] at hC'; cases hC'
    · obtain ⟨h1, C, hC⟩ := hrb k hk
      refine ⟨(Array.getElem?_eq_some_iff.1 hC).1, fun e => ?_⟩
      obtain ⟨-, C', hC'⟩ := hub k e
      rw [hC] at hC'; cases hC'
  obtain ⟨A', c', w', hr, ho', hg, hw⟩ := push_row (ty := 29) Tryz.underlying29 info24p wr w0.heap.size (fun k => F k ∨ (Value.slice A x.length c).ownBlock = some k) vout rows (h.st.out.keep (fun _ _ => rfl) (Ag.refl _ _) (fun k hk => .inl hk)) A x.length c x ((IntsF.of_own h.row hf).mono fun k hk => .inr hk) hF2 (by omega) h.st.below.size
  have hne : ∀ {k : Nat} {C : Array Value} {fr : Nat × Nat}, wr.heap[k]? = some (.cells C 3 fr) → vout.ownBlock ≠ some k := fun {k C fr} hc e => by
    obtain ⟨-, C', hC'⟩ := hub k e
    rw [hc] at hC'; cases hC'
  refine ⟨A', c', w', hr, ⟨h.st.below.grown hg h.st.below.size (fun k hk => (hub k hk).1), h.st.bm0, h.st.map.kept hg (fun e => ?_), owns_keep h.st.ord fun r hr => ?_, ho', fun k hk => ?_⟩⟩
  · obtain ⟨es, cl, hm⟩ := h.st.map.isMapObj
    obtain ⟨-, C', hC'⟩ := hub bm e
    rw [hm] at hC'; cases hC'
  · obtain ⟨-, C, hC⟩ := hob r hr
    exact (grown_cells hg hC (hne hC)).trans hC.symm
  · have h2 := (hF2 k hk).1
    rcases hk with hk | hk
    · obtain ⟨h1, _, h3, C, hC⟩ := h.st.fs k hk
      exact ⟨h1, Nat.lt_of_lt_of_le h2 hg.size, h3, C, grown_cells hg hC (hne hC)⟩
    · obtain ⟨h1, C, hC⟩ := hrb k hk
      exact ⟨h1, Nat.lt_of_lt_of_le h2 hg.size, (h.ap k hk).1, C, grown_cells hg hC (hne hC)⟩
end Go.Proofs
namespace Go.Proofs
open Go.RowKit Go.Shelf Go.Proofs.Ct
def XsAt (w : World) (b : Nat) (x : List Int) : Prop := ∃ C : Array Value, w.heap[b]? = some (.cells C 3 (0, 0)) ∧ x.length ≤ C.size ∧ ∀ k, k < x.length → C[k]? = some (.int .i64 (x.getD k 0))
theorem getD_set {α : Type} {d : α} (l : List α) (k j : Nat) (v : α) : (l.set k v).getD j d = if k = j ∧ k < l.length then v else l.getD j d := by
  rw [List.getD_eq_getElem?_getD, List.getElem?_set, List.getD_eq_getElem?_getD]
  by_cases h : k = j
  · subst h
    by_cases h2 : k < l.length <;> simp [h2]
  · simp [h]
section
variable {w w' : World} {b k : Nat} {x y : List Int}
theorem XsAt.lt (h : XsAt w b x) : b < w.heap.size := by obtain ⟨C, hC, -⟩ := h; exact (Array.getElem?_eq_some_iff.1 hC).1
theorem XsAt.keep (h : XsAt w b x) (hk : w'.heap[b]? = w.heap[b]?) : XsAt w' b x := by
  obtain ⟨C, hC, h2, h3⟩ := h
  exact ⟨C, hk.trans hC, h2, h3⟩
theorem XsAt.below (h : XsAt w b x) (hb : Below w.heap.size w w') : XsAt w' b x := h.keep (hb.block _ h.lt)
theorem XsAt.grown {row : Option Nat} (h : XsAt w b x) (hg : w.grownBy w' row) (hr : row ≠ some b) : XsAt w' b x := h.keep (hg.block _ h.lt (Ne.symm hr))
theorem XsAt.cell (h : XsAt w b x) (hk : k < x.length) : w.cell? ⟨b, k, none⟩ = some (.int .i64 (x.getD k 0)) := by
  obtain ⟨C, hC, -, h3⟩ := h
  rw [cell_of_row _ _ _ _ _ _ hC]; exact h3 k hk
theorem XsAt.frozen (h : XsAt w b x) (k : Nat) : w.frozen? ⟨b, k, none⟩ = false := by
  obtain ⟨C, hC, -⟩ := h
  simp [World.frozen?, hC]
theorem XsAt.set (h : XsAt w b x) (hk : k < x.length) (v : Int) : XsAt (w.setCell ⟨b, k, none⟩ (.int .i64 v)) b (x.set k v) := by
  obtain ⟨C, hC, h2, h3⟩ := h
  refine ⟨C.setIfInBounds k (.int .i64 v), by simp [World.setCell, Array.getElem?_modify, hC], by simpa using h2, fun j hj => ?_⟩
  have hj' : j < x.length := by simpa using hj
  rw [getD_set]
  by_cases e : k = j
  · subst e
    rw [if_pos ⟨rfl, hk⟩]
    have : k < C.size := by omega
    simp [this]
  · rw [if_neg (fun hh => e hh.1), Array.getElem?_setIfInBounds_ne e]
    exact h3 j hj'
theorem XsAt.ints (h : XsAt w b x) {n cap : Nat} (hn : x.length = n) (hc : n ≤ cap) (hm : cap ≤ 9223372036854775807) (hf : Fits x) : IntsAt w (.slice (some ⟨b, 0, none⟩) n cap) x := by
  refine ⟨⟨_, n, cap, rfl, by simp [_root_.Go.Proofs.ints, hn], hc, by simpa [maxLen] using hm, fun _ => ⟨b, 0, rfl, fun j v hv => ?_⟩⟩, hf⟩
  have hj : j < x.length := by have := (List.getElem?_eq_some_iff.1 hv).1; simpa [_root_.Go.Proofs.ints] using this
  rw [Nat.zero_add, h.cell hj, ← hv]
  simp [_root_.Go.Proofs.ints, hj, List.getD_eq_getElem?_getD]
theorem grown_setCell (w : World) (b k : Nat) (v : Value) : w.grownBy (w.setCell ⟨b, k, none⟩ v) (some b) :=
  ⟨rfl, rfl, rfl, by simp [World.setCell], fun i _ hne => Below.heap_setCell w ⟨b, k, none⟩ v i (fun e => hne (by rw [e]))⟩
end
structure OutSt (e : TypeId) (F : Nat → Prop) (w0 wr : World) (vout : Value) (rows : List (List Int)) : Prop where
  below : Below w0.heap.size w0 wr
  out : OwnT e w0.heap.size F wr vout rows
  fs : ∀ k, F k → w0.heap.size ≤ k ∧ k < wr.heap.size ∧ ∃ C, wr.heap[k]? = some (.cells C 3 (0, 0))
structure OutSt2 (e : TypeId) (F : Nat → Prop) (w0 wr : World) (vout vr : Value) (rows : List (List Int)) (x : List Int) : Prop where
  st : OutSt e F w0 wr vout rows
  row : OwnI w0.heap.size wr vr x
  ap : ∀ r, vr.ownBlock = some r → ¬ F r
theorem OutSt.nil (e : TypeId) {w0 wr : World} (h : Below w0.heap.size w0 wr) : OutSt e (fun _ => False) w0 wr (.slice none 0 0) [] :=
  ⟨h, ⟨[], World.ownsRow_nil _ _ _ _, RowsF.nil _ _⟩, fun _k hk => hk.elim⟩
theorem OutSt.row_nil {e : TypeId} {F : Nat → Prop} {w0 wr : World} {vout : Value} {rows : List (List Int)} (h : OutSt e F w0 wr vout rows) : OutSt2 e F w0 wr vout (.slice none 0 0) rows [] :=
  ⟨h, World.ownsRow_nil _ _ _ _, fun r hr => by cases hr⟩
theorem OutSt.grown {e : TypeId} {F : Nat → Prop} {w0 wr w' : World} {vout : Value} {rows : List (List Int)} {row : Option Nat} (h : OutSt e F w0 wr vout rows) (hg : wr.grownBy w' row)
    (h0 : ∀ r, row = some r → w0.heap.size ≤ r ∧ ¬ F r ∧ vout.ownBlock ≠ some r) : OutSt e F w0 w' vout rows := by
  have hub := h.out.block
  refine ⟨h.below.grown hg h.below.size (fun k hk => (h0 k hk).1), h.out.keep (fun r hr => ?_) (Ag.grown hg fun k hk => ⟨(h.fs k hk).2.1, fun e => (h0 _ e).2.1 hk⟩) (fun _ h => h), fun k hk => ?_⟩
  · obtain ⟨-, C, hC⟩ := hub r hr
    exact hg.block r (Array.getElem?_eq_some_iff.1 hC).1 (fun e => (h0 r e.symm).2.2 hr)
  · obtain ⟨h1, h2, C, hC⟩ := h.fs k hk
    exact ⟨h1, Nat.lt_of_lt_of_le h2 hg.size, C, grown_cells hg hC (fun e => (h0 _ e).2.1 hk)⟩
theorem OutSt.below' {e : TypeId} {F : Nat → Prop} {w0 wr w' : World} {vout : Value} {rows : List (List Int)} (h : OutSt e F w0 wr vout rows) (hb : Below wr.heap.size wr w') : OutSt e F w0 w' vout rows :=
  h.grown (row := none) ⟨hb.os, hb.tape, hb.output, hb.size, fun k hk _ => hb.block k hk⟩ (fun r hr => by cases hr)
theorem OutSt.with_row {e : TypeId} {F : Nat → Prop} {w0 wr w' : World} {vout vr : Value} {rows : List (List Int)} {x : List Int} (h : OutSt e F w0 wr vout rows) (hb : Below wr.heap.size wr w') (hr : OwnI wr.heap.size w' vr x) : OutSt2 e F w0 w' vout vr rows x :=
  ⟨h.below' hb, owns_base hr h.below.size, fun r hr' hF => by
    have h1 := (owns_block hr r hr').1
    have h2 := (h.fs r hF).2.1
    omega⟩
theorem OutSt2.add {e : TypeId} (he : e ≠ 3) (t : TypeId) (ht : Tryz.prog.underlying t = some (.slice 3)) {F : Nat → Prop} {w0 wr : World} {vout vr : Value} {rows : List (List Int)} {x : List Int} (h : OutSt2 e F w0 wr vout vr rows x) (z : Int) (hx : x.length ≤ 1000000) :
    ∃ A' c' w', (Builtin.append_ #[t, t] t #[vr, .slice (some ⟨wr.heap.size, 0, none⟩) 1 1]).run Tryz.prog (wr.alloc (.cells #[.int .i64 z] 3)) = .ok (.slice A' (x.length + 1) c') w' ∧ OutSt2 e F w0 w' vout (.slice A' (x.length + 1) c') rows (x ++ [z]) := by
  obtain ⟨A', c', w', hr, ho, hg, hw⟩ := push_int t t ht wr w0.heap.size vr x h.row z (by omega) h.st.below.size
  have hrb := owns_block h.row
  have hst : OutSt e F w0 w' vout rows := h.st.grown hg fun r hr => by
    obtain ⟨h1, C, hC⟩ := hrb r hr
    refine ⟨h1, h.ap r hr, fun e' => ?_⟩
    obtain ⟨-, C', hC'⟩ := h.st.out.block r e'
    rw [hC] at hC'
    injection hC' with h5
    injection h5 with _ h6 _
    exact he h6.symm
  refine ⟨A', c', w', hr, hst, ho, fun r hr => ?_⟩
  rcases hw with hw | ⟨r', hr', hge⟩
  · rw [hw] at hr
    exact h.ap r hr
  · have e : r' = r := by rw [hr'] at hr; exact Option.some.inj hr
    subst e
    exact fun e => absurd (h.st.fs _ e).2.1 (by omega)
theorem OutSt2.done {t e : TypeId} (he : e ≠ 3) (ht : Tryz.prog.underlying t = some (.slice e)) (hi : ∃ i, Tryz.prog.info? e = some i ∧ i.zero = some (.slice none 0 0) ∧ i.size = 1 ∧ i.bytes = 24) {F : Nat → Prop} {w0 wr : World} {vout : Value} {A : Option Addr} {n c : Nat} {rows : List (List Int)} {x : List Int} (h : OutSt2 e F w0 wr vout (.slice A n c) rows x) (hf : Fits x) (hl : rows.length ≤ 1000000) :
    ∃ A' c' w', (Builtin.append_ #[t, t] t #[vout, .slice (some ⟨wr.heap.size, 0, none⟩) 1 1]).run Tryz.prog (wr.alloc (.cells #[.slice A n c] e)) = .ok (.slice A' (rows.length + 1) c') w' ∧
      OutSt e (fun k => F k ∨ (Value.slice A n c).ownBlock = some k) w0 w' (.slice A' (rows.length + 1) c') (rows ++ [x]) := by
  have hub := h.st.out.block
  have hrb := owns_block h.row
  have hne : ∀ {k : Nat} {C : Array Value} {fr : Nat × Nat}, wr.heap[k]? = some (.cells C 3 fr) → vout.ownBlock ≠ some k := fun {k C fr} hc e' => by
    obtain ⟨-, C', hC'⟩ := hub k e'
    rw [hc] at hC'
    injection hC' with h5
    injection h5 with _ h6 _
    exact he h6.symm
  have hF2 : ∀ k, (F k ∨ (Value.slice A n c).ownBlock = some k) → k < wr.heap.size ∧ vout.ownBlock ≠ some k := fun k hk => by
    rcases hk with hk | hk
    · obtain ⟨h1, h2, C, hC⟩ := h.st.fs k hk
      exact ⟨h2, hne hC⟩
    · obtain ⟨h1, C, hC⟩ := hrb k hk
      exact ⟨(Array.getElem?_eq_some_iff.1 hC).1, hne hC⟩
  obtain ⟨A', c', w', hr, ho', hg, hw⟩ := push_row (ty := t) ht hi wr w0.heap.size (fun k => F k ∨ (Value.slice A n c).ownBlock = some k) vout rows (h.st.out.keep (fun _ _ => rfl) (Ag.refl _ _) (fun k hk => .inl hk)) A n c x ((IntsF.of_own h.row hf).mono fun k hk => .inr hk) hF2 (by omega) h.st.below.size
  refine ⟨A', c', w', hr, ⟨h.st.below.grown hg h.st.below.size (fun k hk => (hub k hk).1), ho', fun k hk => ?_⟩⟩
  have h2 := (hF2 k hk).1
  rcases hk with hk | hk
  · obtain ⟨h1, _, C, hC⟩ := h.st.fs k hk
    exact ⟨h1, Nat.lt_of_lt_of_le h2 hg.size, C, grown_cells hg hC (hne hC)⟩
  · obtain ⟨h1, C, hC⟩ := hrb k hk
    exact ⟨h1, Nat.lt_of_lt_of_le h2 hg.size, C, grown_cells hg hC (hne hC)⟩
theorem complete_true {t : Tb} (h : ∀ r, r < t.length → ∀ c, c < (t.row r).length → (t.row r).getD c 0 ≠ -1) : complete t = true := by
  unfold complete
  rw [Bool.not_eq_true', List.any_eq_false]
  intro row hrow
  obtain ⟨r, hr, rfl⟩ := List.mem_iff_getElem.1 hrow
  have e : t.row r = t[r] := by unfold Tb.row; rw [List.getD_eq_getElem?_getD, List.getElem?_eq_getElem hr]; rfl
  simp only [List.contains_iff_mem]
  intro hm
  obtain ⟨c, hc, he⟩ := List.mem_iff_getElem.1 hm
  have := h r hr c (by rw [e]; exact hc)
  rw [e, List.getD_eq_getElem?_getD, List.getElem?_eq_getElem hc] at this
  exact this he
theorem complete_false {t : Tb} {r c : Nat} (hr : r < t.length) (hc : c < (t.row r).length) (h : (t.row r).getD c 0 = -1) : complete t = false := by
  unfold complete
  rw [Bool.not_eq_false', List.any_eq_true]
  refine ⟨_, row_of_mem hr, ?_⟩
  rw [List.contains_iff_mem, ← h, List.getD_eq_getElem?_getD, List.getElem?_eq_getElem hc]
  exact List.getElem_mem hc
theorem complete_pos {t : Tb} (h : complete t = true) : ∀ r, r < t.length → ∀ c, c < (t.row r).length → (t.row r).getD c 0 ≠ -1 := fun r hr c hc e => by
  rw [complete_false hr hc e] at h
  cases h
set_option maxRecDepth 100000 in
set_option maxHeartbeats 1000000 in
theorem complete46_any (w : World) (v : Value) (t : Tb) (ht : Tab w v t) : Calls Tryz.prog 97 #[v] w fun e w' => e = .returned (.bool (complete t)) ∧ ∃ q, w' = w.drewN q := by
  obtain ⟨A, c, rfl, hc1, hc2, hc⟩ := ht.open_
  have HC := Lib.hid hc
  clear hc ht
  go_enter Tryz.func97, Tryz.ntmps97
  go_wp2_with fail
  go_loopw [3] (fun i wr => ∃ k : Nat, k ≤ t.length ∧ i = .int .i64 k ∧ (∀ r, r < k → ∀ c, c < (t.row r).length → (t.row r).getD c 0 ≠ -1) ∧ ∃ q, wr = w.drewN q) (fun i _ => t.length - (intOf i).toNat)
  case atStart => exact ⟨0, Nat.zero_le _, rfl, fun j hj => absurd hj (by omega), 0, rfl⟩
  case round =>
    obtain ⟨k, hk, rfl, hz, q, rfl⟩ := hrel
    have HZ := Lib.hid hz
    clear hz
    have hk0 : (0 : Int) ≤ (k : Int) := Int.natCast_nonneg _
    by_cases hlt : k < t.length
    · have hlt' : (k : Int) < (t.length : Int) := by omega
      obtain ⟨b, off, rfl, hcell⟩ := HC.out (by omega)
      obtain ⟨u, hu, hI⟩ := hcell k hlt
      have hI2 : IntsAt w u (t.row k) := hI
      clear hI hcell
      obtain ⟨A2, c2, rfl, hd1, hd2, hd⟩ := hI2.open_
      have HD := Lib.hid hd
      have HF := Lib.hid hI2.2
      clear hd hI2
      go_wp2_with fail
      go_loopw [4] (fun i wr => ∃ j : Nat, j ≤ (t.row k).length ∧ i = .int .i64 j ∧ (∀ i, i < j → (t.row k).getD i 0 ≠ -1) ∧ ∃ q, wr = w.drewN q) (fun i _ => (t.row k).length - (intOf i).toNat)
      case atStart => exact ⟨0, Nat.zero_le _, rfl, fun j hj => absurd hj (by omega), q, rfl⟩
      case round =>
        obtain ⟨j, hj, rfl, hzj, qj, rfl⟩ := hrel
        have HZJ := Lib.hid hzj
        clear hzj
        have hj0 : (0 : Int) ≤ (j : Int) := Int.natCast_nonneg _
        by_cases hjl : j < (t.row k).length
        · obtain ⟨b2, o2, rfl, hd'⟩ := HD.out (by omega)
          have hx := hd' j hjl
          clear hd'
          have hjl' : (j : Int) < ((t.row k).length : Int) := by omega
          have HT : Hid ((t.row k).getD j 0 = -1 → complete t = false) := Lib.hid fun h => complete_false hlt hjl h
          have HG : Hid ((t.row k).getD j 0 ≠ -1 → ∀ i, i < j + 1 → (t.row k).getD i 0 ≠ -1) := Lib.hid fun h => all_succ HZJ.out h
          have hI : -9223372036854775808 ≤ (t.row k).getD j 0 ∧ (t.row k).getD j 0 ≤ 9223372036854775807 := Fits.at_ HF.out j
          generalize (t.row k).getD j 0 = s at *
          by_cases h1 : s = -1
          · have d5 : (s == -1) = true := by simpa using h1
            have H1 := Lib.hid h1
            clear h1
            go_wp2_with fail
            go_ret
            exact ⟨ret_bool (HT.out H1.out).symm, _, rfl⟩
          · have d5 : (s == -1) = false := by simpa using h1
            have H1 := Lib.hid h1
            clear h1
            go_wp2_with fail
            go_roundw
            case rel => exact ⟨j + 1, by omega, by go_num, HG.out H1.out, _, rfl⟩
            case measure => simp [intOf]; omega
        · obtain rfl : j = (t.row k).length := by omega
          go_wp2_with fail
          go_roundw
          case rel => exact ⟨k + 1, by omega, by go_num, all_succ HZ.out HZJ.out, _, rfl⟩
          case measure => simp [intOf]; omega
    · obtain rfl : k = t.length := by omega
      go_wp2_with fail
      go_ret
      exact ⟨ret_bool (complete_true HZ.out).symm, _, rfl⟩
end Go.Proofs
