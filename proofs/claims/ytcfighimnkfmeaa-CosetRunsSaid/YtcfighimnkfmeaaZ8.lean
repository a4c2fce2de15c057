/- coset.Reps and cayleyref18.Reps; cayleyref18.Reps; rewrite.of. -/
import Derived.Test.YtcfighimnkfmeaaZ6
import Derived.Test.YtcfighimnkfmeaaZ5
import Derived.Test.YtcfighimnkfmeaaZ7
import Derived.Deep.MidRow
import Derived.Deep.RegionHeld3
namespace Go.Proofs
open Go.RowKit Go.Shelf Go.Proofs.Ct

def RepsPost (g : Int) (t : Tb) (w : World) (e : Ending) (w' : World) : Prop := (∃ u, e = .returned (.tuple #[u, .int .i64 (repsE g t).2]) ∧ TabB w.heap.size w' u (repsE g t).1) ∧ Below w.heap.size w w'
theorem letter_bd {c : Nat} (h : c ≤ 1000) : -1000000 ≤ letter c ∧ letter c ≤ 1000000 := by
  unfold letter
  split <;> omega
theorem fits_snoc {x : List Int} {z : Int} (h : Fits x) (hz : -9223372036854775808 ≤ z ∧ z ≤ 9223372036854775807) : Fits (x ++ [z]) := fun y hy => by
  rcases List.mem_append.1 hy with h' | h'
  · exact h y h'
  · have : y = z := by simpa using h'
    rw [this]; exact hz
theorem OutSt.first {w w2 : World} (hB : Below w.heap.size w w2) :
    OutSt 25 (fun k => k = w2.heap.size) w ((w2.alloc (.cells #[] 3)).alloc (.cells #[.slice (some ⟨w2.heap.size, 0, none⟩) 0 0] 25)) (.slice (some ⟨w2.heap.size + 1, 0, none⟩) 1 1) [[]] := by
  have hb := allocs_below [.cells #[] 3, .cells #[.slice (some ⟨w2.heap.size, 0, none⟩) 0 0] 25] w2 w2.heap.size (Nat.le_refl _)
  have e1 := allocs_get [.cells #[] 3, .cells #[.slice (some ⟨w2.heap.size, 0, none⟩) 0 0] 25] w2 0 _ rfl
  have e2 := allocs_get [.cells #[] 3, .cells #[.slice (some ⟨w2.heap.size, 0, none⟩) 0 0] 25] w2 1 _ rfl
  have h1 := hB.size
  refine ⟨hB.trans (hb.mono h1), ⟨[.slice (some ⟨w2.heap.size, 0, none⟩) 0 0], ⟨rfl, .inr ⟨w2.heap.size + 1, 1, _, rfl, by omega, e2, Nat.le_refl _, by simp [maxLen], rfl, rfl⟩⟩, rfl, fun j hj => ?_⟩, fun k hk => ?_⟩
  · obtain rfl : j = 0 := by simpa using hj
    refine ⟨_, rfl, fun w' _ => ⟨⟨_, 0, 0, rfl, rfl, Nat.le_refl _, by simp, fun h => absurd h (by omega)⟩, fun x hx => by cases hx⟩⟩
  · subst hk
    refine ⟨h1, by simp; omega, _, e1⟩

set_option maxRecDepth 100000 in
set_option maxHeartbeats 1000000 in
theorem reps50_bad (w : World) (v : Value) (g : Int) (t : Tb) (ht : Tab w v t) (hb : (check g t).1 ≠ 0) : Calls Try.prog 50 #[.int .i64 g, v] w (RepsPost g t w) := by
  have HC := Lib.hid (check43_any w v g t ht)
  obtain ⟨A, c, rfl, hc1, hc2, hc⟩ := ht.open_
  clear hc ht
  have HE : Hid (repsE g t = ([], (check g t).1)) := Lib.hid (by unfold repsE; rw [if_pos hb])
  have d1 : ((check g t).1 != 0) = true := by simpa using hb
  have HC' : Hid (Calls Try.prog 43 #[.int .i64 g, .slice A t.length c] w fun e w' => (∃ y, e = .returned (.tuple #[.int .i64 (check g t).1, .int .i64 y])) ∧ Below w.heap.size w w') :=
    Lib.hid (HC.out.mono fun e w' ⟨h2, h3⟩ => ⟨⟨_, h2⟩, h3⟩)
  clear HC
  generalize (check g t).1 = x at *
  clear hb
  go_enter Try.func50, Try.ntmps50
  go_wp2_with (go_at_call 43; (refine HC'.out.mono ?_); rintro e w' ⟨⟨y, rfl⟩, hb⟩; have HB := Lib.hid hb; clear hb)
  go_ret2
  exact ⟨⟨.slice none 0 0, ret_of2 rfl (by rw [HE.out]), by rw [HE.out]; exact TabB.nil⟩, HB.out⟩

set_option maxRecDepth 100000 in
set_option maxHeartbeats 2000000 in
theorem reps50_good (w : World) (v : Value) (g : Nat) (t : Tb) (ht : Tab w v t) (hg : TGood g t) : Calls Try.prog 50 #[.int .i64 g, v] w (RepsPost g t w) := by
  have hck := check_of_good hg
  have hn1 := hg.n1
  have HC : Hid (Calls Try.prog 43 #[.int .i64 (g : Int), v] w fun e w' => e = .returned (.tuple #[.int .i64 0, .int .i64 (-1)]) ∧ Below w.heap.size w w') :=
    Lib.hid ((check43_any w v g t ht).mono fun e w' ⟨h2, h3⟩ => by rw [hck] at h2; exact ⟨h2, h3⟩)
  have HST : Hid (∀ w', Below w.heap.size w w' → Calls Try.prog 48 #[.int .i64 (g : Int), v, .int .i64 0] w' (StdPost g t 0 w')) := Lib.hid fun w' hb => std48_good w' v g t 0 (kept_tab.below ht hb) hg (by omega) (by omega)
  have HE1 : Hid (std t 0 ≠ some t → repsE g t = ([], 13)) := Lib.hid fun h => by unfold repsE; rw [hck, if_neg (by simp), if_neg h]
  have HE2 : Hid (std t 0 = some t → repsE g t = (reps t, 0)) := Lib.hid fun h => by unfold repsE; rw [hck, if_neg (by simp), if_pos h]
  have HS1 : Hid (std t 0 = none → stdE g t 0 = ([], 13)) := Lib.hid fun h => by unfold stdE; rw [hck, if_neg (by simp), if_neg (by omega), h]
  have HS2 : Hid (∀ s, std t 0 = some s → stdE g t 0 = (s, 0)) := Lib.hid fun s h => by unfold stdE; rw [hck, if_neg (by simp), if_neg (by omega), h]
  have HSM : Hid (∀ w' u s, Tab w' u s → Below w.heap.size w w' → Calls Try.prog 109 #[u, v] w' fun e w'' => e = .returned (.bool (decide (s = t))) ∧ ∃ q, w'' = w'.drewN q) := Lib.hid fun w' u s hu hb => same109_any w' u v s t hu (kept_tab.below ht hb)
  have HTB := Lib.hid ht
  obtain ⟨A, c, rfl, hc1, hc2, hc⟩ := ht.open_
  have hn2 := hg.n2
  obtain ⟨bt, ot, rfl, hcell⟩ := hc (by omega)
  have HT := Lib.hid hcell
  have HG := Lib.hid hg
  have hg16 := hg.g16
  have hg16' : (g : Int) ≤ 16 := by omega
  have hg0 : (0 : Int) ≤ (g : Int) := Int.natCast_nonneg _
  have hn0 : (0 : Int) ≤ (t.length : Int) := Int.natCast_nonneg _
  clear hcell hc ht hck hg
  rcases hs : std t 0 with _ | s
  · have hSE := HS1.out hs
    have HST' : Hid (∀ w', Below w.heap.size w w' → Calls Try.prog 48 #[.int .i64 (g : Int), .slice (some ⟨bt, ot, none⟩) t.length c, .int .i64 0] w' fun e w'' => (∃ u, e = .returned (.tuple #[u, .int .i64 13])) ∧ Below w'.heap.size w' w'') := Lib.hid fun w' hb => (HST.out w' hb).mono fun e w'' ⟨⟨u, h1, h2⟩, h3⟩ => by
      rw [hSE] at h1
      exact ⟨⟨u, h1⟩, h3⟩
    have HZ := Lib.hid (HE1.out (by rw [hs]; simp))
    clear hs hSE
    go_enter Try.func50, Try.ntmps50
    go_wp2_with (first
      | (go_at_call 43; (refine HC.out.mono ?_); rintro e w1 ⟨rfl, hb⟩; have HB1 := Lib.hid hb; clear hb)
      | (go_at_call 48; (refine (HST'.out _ HB1.out).mono ?_); rintro e w2 ⟨⟨u, rfl⟩, hb⟩; have HB2 := Lib.hid (HB1.out.trans (hb.mono HB1.out.size)); clear hb))
    go_ret2
    exact ⟨⟨.slice none 0 0, ret_of2 rfl (by rw [HZ.out]), by rw [HZ.out]; exact TabB.nil⟩, HB2.out⟩
  · have hSE := HS2.out s hs
    have HST' : Hid (∀ w', Below w.heap.size w w' → Calls Try.prog 48 #[.int .i64 (g : Int), .slice (some ⟨bt, ot, none⟩) t.length c, .int .i64 0] w' fun e w'' => (∃ u, e = .returned (.tuple #[u, .int .i64 0]) ∧ Hid (Tab w'' u s)) ∧ Below w'.heap.size w' w'') := Lib.hid fun w' hb => (HST.out w' hb).mono fun e w'' ⟨⟨u, h1, h2⟩, h3⟩ => by
      rw [hSE] at h1 h2
      exact ⟨⟨u, h1, Lib.hid h2⟩, h3⟩
    clear HST hSE
    by_cases hst : s = t
    · subst hst
      have HZ := Lib.hid (HE2.out hs)
      have HSTD := Lib.hid (std_iff hs)
      have HSM' : Hid (∀ w' u, Tab w' u s → Below w.heap.size w w' → Calls Try.prog 109 #[u, .slice (some ⟨bt, ot, none⟩) s.length c] w' fun e w'' => e = .returned (.bool true) ∧ ∃ q, w'' = w'.drewN q) := Lib.hid fun w' u hu hb => by
        have := HSM.out w' u s hu hb
        rwa [decide_eq_true rfl] at this
      clear hs HSM
      go_enter Try.func50, Try.ntmps50
      go_wp2_with (first
        | (go_at_call 43; (refine HC.out.mono ?_); rintro e w1 ⟨rfl, hb⟩; have HB1 := Lib.hid hb; clear hb)
        | (go_at_call 48; (refine (HST'.out _ HB1.out).mono ?_); rintro e w2 ⟨⟨u, rfl, HU⟩, hb⟩; have HB2 := Lib.hid (HB1.out.trans (hb.mono HB1.out.size)); clear hb)
        | (go_at_call 109; (refine (HSM'.out _ _ HU.out HB2.out).mono ?_); rintro e w3 ⟨rfl, q, rfl⟩))
      have hot := OutSt.first (below_drewN HB2.out q)
      have HOT := Lib.hid hot
      clear hot
      go_loopw [10, 11] (fun so i wr => ∃ k m : Nat, i = .int .i64 k ∧ k ≤ s.length ∧ Hid (m = (foldTo (repRow s) k [[]]).length) ∧ ∃ F A c, so = .slice A m c ∧ Hid (OutSt 25 F w wr so (foldTo (repRow s) k [[]]))) (fun _ i _ => s.length - (intOf i).toNat)
      case atStart => exact ⟨0, 1, rfl, by omega, Lib.hid rfl, _, _, _, rfl, HOT⟩
      case round =>
        clear HOT
        obtain ⟨k, m, rfl, hk, HM, F, A2, c2, rfl, HST⟩ := hrel
        have hk0 : (0 : Int) ≤ (k : Int) := Int.natCast_nonneg _
        by_cases hlt : k < s.length
        · have hlt' : (k : Int) < (s.length : Int) := by omega
          obtain ⟨m0, hm0, ho0, hR0⟩ := rep_at HG.out HSTD.out k hk
          have hrow := rep_row HG.out HSTD.out hlt (hm0 hlt) ho0 hR0
          have HROW := Lib.hid hrow
          have HM0 := Lib.hid (hm0 hlt)
          have hrl := HG.out.len k hlt
          have HRL := Lib.hid hrl
          obtain ⟨u, hu, hI⟩ := HT.out k hlt
          have HU2 := Lib.hid hu
          have hI2 : IntsAt w u (s.row k) := hI
          obtain ⟨Au, cu, rfl, hu1, hu2, huc⟩ := hI2.open_
          obtain ⟨bu, ou, rfl, huc'⟩ := huc (by have := HG.out.g1; omega)
          have HUC := Lib.hid huc'
          have hu3 := (HST.out.below.cell (p := ⟨bt, ot + k, none⟩) (World.block_lt_of_cell? w _ HU2.out)).trans HU2.out
          clear hu hI hI2 huc huc' hrl hrow ho0 hR0 hm0
          go_wp2_with fail
          go_loopw [10, 50] (fun so i wr => ∃ j m : Nat, i = .int .i64 j ∧ j ≤ (s.row k).length ∧ Hid (m = (foldTo (repCol s k) j (foldTo (repRow s) k [[]])).length) ∧ ∃ F A c, so = .slice A m c ∧ Hid (OutSt 25 F w wr so (foldTo (repCol s k) j (foldTo (repRow s) k [[]])))) (fun _ i _ => (s.row k).length - (intOf i).toNat)
          case atStart => exact ⟨0, m, rfl, by omega, HM, _, _, _, rfl, HST⟩
          case round =>
            clear hu3 HST HM
            obtain ⟨j, m, rfl, hj, HM, F, A2, c2, rfl, HS⟩ := hrel
            have hj0 : (0 : Int) ≤ (j : Int) := Int.natCast_nonneg _
            by_cases hjl : j < (s.row k).length
            · have hjl3 : (j : Int) < (((s.row k).length : Int)) := by omega
              have hjl2 : j < (s.row k).length := by have := HRL.out; omega
              have hjl4 : (j : Int) < ((s.row k).length : Int) := by omega
              have hj32 : j < 2 * g := by have := HRL.out; omega
              have hcs := HUC.out j hjl2
              have hcs' := (HS.out.below.cell (p := ⟨bu, ou + j, none⟩) (World.block_lt_of_cell? w _ hcs)).trans hcs
              have hu3 := (HS.out.below.cell (p := ⟨bt, ot + k, none⟩) (World.block_lt_of_cell? w _ HU2.out)).trans HU2.out
              obtain ⟨m1, hm1, hR1⟩ := HROW.out j (by omega)
              have hbd := HG.out.bd k hlt j hj32
              have hml : m = m1 := by rw [HM.out]; exact hR1.ol
              have hmn : m ≤ s.length := by rw [hml]; exact hR1.le
              have hkm : k < m := by have := HM0.out; omega
              have hwl := hR1.wl k (by omega)
              have hat : (s.row k).getD j 0 = s.at k j := rfl
              rw [hat] at hcs'
              have HSJ0 : Hid (s.at k j = ((foldTo (repCol s k) j (foldTo (repRow s) k [[]])).length : Int) → foldTo (repCol s k) (j + 1) (foldTo (repRow s) k [[]]) = foldTo (repCol s k) j (foldTo (repRow s) k [[]]) ++ [(foldTo (repCol s k) j (foldTo (repRow s) k [[]])).getD k [] ++ [letter j]]) := Lib.hid fun h => if_pos h
              have HSJ1 : Hid (s.at k j ≠ ((foldTo (repCol s k) j (foldTo (repRow s) k [[]])).length : Int) → foldTo (repCol s k) (j + 1) (foldTo (repRow s) k [[]]) = foldTo (repCol s k) j (foldTo (repRow s) k [[]])) := Lib.hid fun h => if_neg h
              rw [← HM.out] at HSJ0 HSJ1
              clear hcs hat hR1 hm1 hml
              generalize foldTo (repCol s k) j (foldTo (repRow s) k [[]]) = oj at *
              generalize s.at k j = x at *
              have hI1 : -9223372036854775808 ≤ x := by omega
              have hI3 : x ≤ 9223372036854775807 := by omega
              clear hbd
              have hm64 : (m : Int) ≤ 20000 := by omega
              by_cases hx : x = (m : Int)
              · have d5 : (x == (m : Int)) = true := by simpa using hx
                have HSJ := Lib.hid (HSJ0.out hx)
                have HM8 : Hid (m + 1 = (foldTo (repCol s k) (j + 1) (foldTo (repRow s) k [[]])).length) := Lib.hid (by rw [HSJ.out, List.length_append, HM.out]; rfl)
                obtain ⟨A5, c5, e5, ht1, ht2, ht3⟩ := HS.out.out.tab.open_
                obtain ⟨rfl, -, rfl⟩ := Value.slice.inj e5
                obtain ⟨b5, o5, rfl, hoc⟩ := ht3 (by have := HM.out; omega)
                obtain ⟨u5, hu5, hI5⟩ := hoc k (by have := HM.out; omega)
                have hkm' : (k : Int) < (m : Int) := by omega
                have HF := Lib.hid hI5.2
                have HLB : Hid (-9223372036854775808 ≤ letter j ∧ letter j ≤ 9223372036854775807) := Lib.hid (by have := letter_bd (c := j) (by omega); omega)
                clear hx hoc ht3 e5
                (
                  have HCL := Lib.hid (clone71_any wr u5 (oj.getD k []) hI5 (by omega))
                  clear hI5
                  go_wp2_with (first
                    | (go_at_call 71; (refine HCL.out.mono ?_); rintro e w5 ⟨A7, c7, rfl, ho, hb⟩
                       obtain ⟨A8, c8, w6, hr6, hS6⟩ := (HS.out.with_row hb ho).add (by decide) 25 Try.underlying25 (letter j) (by omega)
                       obtain ⟨A9, c9, w7, hr7, hS7⟩ := hS6.done (by decide) Try.underlying31 info25p (fits_snoc HF.out HLB.out) (by have := HM.out; omega)
                       rw [← HM.out] at hr7 hS7
                       have HR6 := Lib.hid hr6
                       have HR7 := Lib.hid hr7
                       rw [← HSJ.out] at hS7
                       have HS7 := Lib.hid hS7
                       clear ho hb hr6 hr7 hS6 hS7)
                    | (go_at_call 110; (refine (letter110_any _ j (by omega)).mono ?_); rintro e w8 ⟨rfl, rfl⟩)
                    | ((with_reducible refine wpList_sel 68 ?_); refine wpList_val rfl (r_app (.tmp 64) (.tmp 67) 25 rfl rfl rfl HR6.out) ?_)
                    | ((with_reducible refine wpList_sel 70 ?_); refine wpList_val rfl (r_app (.tmp 59) (.tmp 69) 31 rfl rfl rfl HR7.out) ?_))
                  go_roundw
                  case rel => exact ⟨j + 1, m + 1, by go_num, by omega, HM8, _, _, _, rfl, HS7⟩
                  case measure => simp [intOf]; omega
                )
              · have d5 : (x == (m : Int)) = false := by simpa using hx
                have HSJ := Lib.hid (HSJ1.out hx)
                rw [← HSJ.out] at HS HM
                clear hx
                go_wp2_with fail
                go_roundw
                case rel => exact ⟨j + 1, m, by go_num, by omega, HM, _, _, _, rfl, HS⟩
                case measure => simp [intOf]; omega
            · obtain rfl : j = (s.row k).length := by omega
              have he : foldTo (repRow s) (k + 1) [[]] = foldTo (repCol s k) ((s.row k).length) (foldTo (repRow s) k [[]]) := rfl
              rw [← he] at HS HM
              clear he
              go_wp2_with fail
              go_roundw
              case rel => exact ⟨k + 1, m, by go_num, by omega, HM, _, _, _, rfl, HS⟩
              case measure => simp [intOf]; omega
        · obtain rfl : k = s.length := by omega
          have HT2 := Lib.hid HST.out.tabB
          have HBW := Lib.hid HST.out.below
          go_wp2_with fail
          go_ret2
          exact ⟨⟨_, ret_of2 rfl (by rw [HZ.out]), by rw [HZ.out]; exact HT2.out⟩, HBW.out⟩
    · have HZ := Lib.hid (HE1.out (by rw [hs]; simpa using hst))
      rw [hs] at HE2
      have HSM' : Hid (∀ w' u, Tab w' u s → Below w.heap.size w w' → Calls Try.prog 109 #[u, .slice (some ⟨bt, ot, none⟩) t.length c] w' fun e w'' => e = .returned (.bool false) ∧ ∃ q, w'' = w'.drewN q) := Lib.hid fun w' u hu hb => by
        have := HSM.out w' u s hu hb
        rwa [decide_eq_false hst] at this
      clear hs hst HSM
      go_enter Try.func50, Try.ntmps50
      go_wp2_with (first
        | (go_at_call 43; (refine HC.out.mono ?_); rintro e w1 ⟨rfl, hb⟩; have HB1 := Lib.hid hb; clear hb)
        | (go_at_call 48; (refine (HST'.out _ HB1.out).mono ?_); rintro e w2 ⟨⟨u, rfl, HU⟩, hb⟩; have HB2 := Lib.hid (HB1.out.trans (hb.mono HB1.out.size)); clear hb)
        | (go_at_call 109; (refine (HSM'.out _ _ HU.out HB2.out).mono ?_); rintro e w3 ⟨rfl, q, rfl⟩))
      go_ret2
      exact ⟨⟨.slice none 0 0, ret_of2 rfl (by rw [HZ.out]), by rw [HZ.out]; exact TabB.nil⟩, below_drewN HB2.out q⟩
end Go.Proofs
namespace Go.Proofs
open Go.RowKit Go.Shelf Go.Proofs.Ct

set_option maxRecDepth 100000 in
set_option maxHeartbeats 1000000 in
theorem reps51_bad (w : World) (v : Value) (g : Int) (t : Tb) (ht : Tab w v t) (hb : (check g t).1 ≠ 0) : Calls Try.prog 51 #[.int .i64 g, v] w (RepsPost g t w) := by
  have HC := Lib.hid (check44_any w v g t ht)
  obtain ⟨A, c, rfl, hc1, hc2, hc⟩ := ht.open_
  clear hc ht
  have HE : Hid (repsE g t = ([], (check g t).1)) := Lib.hid (by unfold repsE; rw [if_pos hb])
  have d1 : ((check g t).1 != 0) = true := by simpa using hb
  have HC' : Hid (Calls Try.prog 44 #[.int .i64 g, .slice A t.length c] w fun e w' => (∃ y, e = .returned (.tuple #[.int .i64 (check g t).1, .int .i64 y])) ∧ Below w.heap.size w w') :=
    Lib.hid (HC.out.mono fun e w' ⟨h2, h3⟩ => ⟨⟨_, h2⟩, by obtain ⟨q, rfl⟩ := h3; exact below_drewN (Below.refl _ _) q⟩)
  clear HC
  generalize (check g t).1 = x at *
  clear hb
  go_enter Try.func51, Try.ntmps51
  go_wp2_with (go_at_call 44; (refine HC'.out.mono ?_); rintro e w' ⟨⟨y, rfl⟩, hb⟩; have HB := Lib.hid hb; clear hb)
  go_ret2
  exact ⟨⟨.slice none 0 0, ret_of2 rfl (by rw [HE.out]), by rw [HE.out]; exact TabB.nil⟩, HB.out⟩

set_option maxRecDepth 100000 in
set_option maxHeartbeats 2000000 in
theorem reps51_good (w : World) (v : Value) (g : Nat) (t : Tb) (ht : Tab w v t) (hg : TGood g t) : Calls Try.prog 51 #[.int .i64 g, v] w (RepsPost g t w) := by
  have hck := check_of_good hg
  have hn1 := hg.n1
  have HC : Hid (Calls Try.prog 44 #[.int .i64 (g : Int), v] w fun e w' => e = .returned (.tuple #[.int .i64 0, .int .i64 (-1)]) ∧ Below w.heap.size w w') :=
    Lib.hid ((check44_any w v g t ht).mono fun e w' ⟨h2, h3⟩ => by rw [hck] at h2; exact ⟨h2, by obtain ⟨q, rfl⟩ := h3; exact below_drewN (Below.refl _ _) q⟩)
  have HST : Hid (∀ w', Below w.heap.size w w' → Calls Try.prog 49 #[.int .i64 (g : Int), v, .int .i64 0] w' (StdPost g t 0 w')) := Lib.hid fun w' hb => std49_good w' v g t 0 (kept_tab.below ht hb) hg (by omega)
  have HE1 : Hid (std t 0 ≠ some t → repsE g t = ([], 13)) := Lib.hid fun h => by unfold repsE; rw [hck, if_neg (by simp), if_neg h]
  have HE2 : Hid (std t 0 = some t → repsE g t = (reps t, 0)) := Lib.hid fun h => by unfold repsE; rw [hck, if_neg (by simp), if_pos h]
  have HS1 : Hid (std t 0 = none → stdE g t 0 = ([], 13)) := Lib.hid fun h => by unfold stdE; rw [hck, if_neg (by simp), if_neg (by omega), h]
  have HS2 : Hid (∀ s, std t 0 = some s → stdE g t 0 = (s, 0)) := Lib.hid fun s h => by unfold stdE; rw [hck, if_neg (by simp), if_neg (by omega), h]
  have HSM : Hid (∀ w' u s, Tab w' u s → Below w.heap.size w w' → Calls Try.prog 34 #[u, v] w' fun e w'' => e = .returned (.bool (decide (s = t))) ∧ ∃ q, w'' = w'.drewN q) := Lib.hid fun w' u s hu hb => same18_any w' u v s t hu (kept_tab.below ht hb)
  have HTB := Lib.hid ht
  obtain ⟨A, c, rfl, hc1, hc2, hc⟩ := ht.open_
  have hn2 := hg.n2
  obtain ⟨bt, ot, rfl, hcell⟩ := hc (by omega)
  have HT := Lib.hid hcell
  have HG := Lib.hid hg
  have hg16 := hg.g16
  have hg16' : (g : Int) ≤ 16 := by omega
  have hg0 : (0 : Int) ≤ (g : Int) := Int.natCast_nonneg _
  have hn0 : (0 : Int) ≤ (t.length : Int) := Int.natCast_nonneg _
  clear hcell hc ht hck hg
  rcases hs : std t 0 with _ | s
  · have hSE := HS1.out hs
    have HST' : Hid (∀ w', Below w.heap.size w w' → Calls Try.prog 49 #[.int .i64 (g : Int), .slice (some ⟨bt, ot, none⟩) t.length c, .int .i64 0] w' fun e w'' => (∃ u, e = .returned (.tuple #[u, .int .i64 13])) ∧ Below w'.heap.size w' w'') := Lib.hid fun w' hb => (HST.out w' hb).mono fun e w'' ⟨⟨u, h1, h2⟩, h3⟩ => by
      rw [hSE] at h1
      exact ⟨⟨u, h1⟩, h3⟩
    have HZ := Lib.hid (HE1.out (by rw [hs]; simp))
    clear hs hSE
    go_enter Try.func51, Try.ntmps51
    go_wp2_with (first
      | (go_at_call 44; (refine HC.out.mono ?_); rintro e w1 ⟨rfl, hb⟩; have HB1 := Lib.hid hb; clear hb)
      | (go_at_call 49; (refine (HST'.out _ HB1.out).mono ?_); rintro e w2 ⟨⟨u, rfl⟩, hb⟩; have HB2 := Lib.hid (HB1.out.trans (hb.mono HB1.out.size)); clear hb))
    go_ret2
    exact ⟨⟨.slice none 0 0, ret_of2 rfl (by rw [HZ.out]), by rw [HZ.out]; exact TabB.nil⟩, HB2.out⟩
  · have hSE := HS2.out s hs
    have HST' : Hid (∀ w', Below w.heap.size w w' → Calls Try.prog 49 #[.int .i64 (g : Int), .slice (some ⟨bt, ot, none⟩) t.length c, .int .i64 0] w' fun e w'' => (∃ u, e = .returned (.tuple #[u, .int .i64 0]) ∧ Hid (Tab w'' u s)) ∧ Below w'.heap.size w' w'') := Lib.hid fun w' hb => (HST.out w' hb).mono fun e w'' ⟨⟨u, h1, h2⟩, h3⟩ => by
      rw [hSE] at h1 h2
      exact ⟨⟨u, h1, Lib.hid h2⟩, h3⟩
    clear HST hSE
    by_cases hst : s = t
    · subst hst
      have HZ := Lib.hid (HE2.out hs)
      have HSTD := Lib.hid (std_iff hs)
      have HSM' : Hid (∀ w' u, Tab w' u s → Below w.heap.size w w' → Calls Try.prog 34 #[u, .slice (some ⟨bt, ot, none⟩) s.length c] w' fun e w'' => e = .returned (.bool true) ∧ ∃ q, w'' = w'.drewN q) := Lib.hid fun w' u hu hb => by
        have := HSM.out w' u s hu hb
        rwa [decide_eq_true rfl] at this
      clear hs HSM
      go_enter Try.func51, Try.ntmps51
      go_wp2_with (first
        | (go_at_call 44; (refine HC.out.mono ?_); rintro e w1 ⟨rfl, hb⟩; have HB1 := Lib.hid hb; clear hb)
        | (go_at_call 49; (refine (HST'.out _ HB1.out).mono ?_); rintro e w2 ⟨⟨u, rfl, HU⟩, hb⟩; have HB2 := Lib.hid (HB1.out.trans (hb.mono HB1.out.size)); clear hb)
        | (go_at_call 34; (refine (HSM'.out _ _ HU.out HB2.out).mono ?_); rintro e w3 ⟨rfl, q, rfl⟩))
      have hot := OutSt.first (below_drewN HB2.out q)
      have HOT := Lib.hid hot
      clear hot
      go_loopw [10, 11] (fun so i wr => ∃ k m : Nat, i = .int .i64 k ∧ k ≤ s.length ∧ Hid (m = (foldTo (repRow s) k [[]]).length) ∧ ∃ F A c, so = .slice A m c ∧ Hid (OutSt 25 F w wr so (foldTo (repRow s) k [[]]))) (fun _ i _ => s.length - (intOf i).toNat)
      case atStart => exact ⟨0, 1, rfl, by omega, Lib.hid rfl, _, _, _, rfl, HOT⟩
      case round =>
        clear HOT
        obtain ⟨k, m, rfl, hk, HM, F, A2, c2, rfl, HST⟩ := hrel
        have hk0 : (0 : Int) ≤ (k : Int) := Int.natCast_nonneg _
        by_cases hlt : k < s.length
        · have hlt' : (k : Int) < (s.length : Int) := by omega
          obtain ⟨m0, hm0, ho0, hR0⟩ := rep_at HG.out HSTD.out k hk
          have hrow := rep_row HG.out HSTD.out hlt (hm0 hlt) ho0 hR0
          have HROW := Lib.hid hrow
          have HM0 := Lib.hid (hm0 hlt)
          have hrl := HG.out.len k hlt
          have HRL := Lib.hid hrl
          obtain ⟨u, hu, hI⟩ := HT.out k hlt
          have HU2 := Lib.hid hu
          have hI2 : IntsAt w u (s.row k) := hI
          obtain ⟨Au, cu, rfl, hu1, hu2, huc⟩ := hI2.open_
          obtain ⟨bu, ou, rfl, huc'⟩ := huc (by have := HG.out.g1; omega)
          have HUC := Lib.hid huc'
          have hu3 := (HST.out.below.cell (p := ⟨bt, ot + k, none⟩) (World.block_lt_of_cell? w _ HU2.out)).trans HU2.out
          clear hu hI hI2 huc huc' hrl hrow ho0 hR0 hm0
          go_wp2_with fail
          go_loopw [10, 12] (fun so i wr => ∃ j m : Nat, i = .int .i64 j ∧ j ≤ 2 * g ∧ Hid (m = (foldTo (repCol s k) j (foldTo (repRow s) k [[]])).length) ∧ ∃ F A c, so = .slice A m c ∧ Hid (OutSt 25 F w wr so (foldTo (repCol s k) j (foldTo (repRow s) k [[]])))) (fun _ i _ => 2 * g - (intOf i).toNat)
          case atStart => exact ⟨0, m, rfl, by omega, HM, _, _, _, rfl, HST⟩
          case round =>
            clear hu3 HST HM
            obtain ⟨j, m, rfl, hj, HM, F, A2, c2, rfl, HS⟩ := hrel
            have hj0 : (0 : Int) ≤ (j : Int) := Int.natCast_nonneg _
            by_cases hjl : j < 2 * g
            · have hjl3 : (j : Int) < (2 * (g : Int)) := by omega
              have hjl2 : j < (s.row k).length := by have := HRL.out; omega
              have hjl4 : (j : Int) < ((s.row k).length : Int) := by omega
              have hj32 : j < 2 * g := by have := HRL.out; omega
              have hcs := HUC.out j hjl2
              have hcs' := (HS.out.below.cell (p := ⟨bu, ou + j, none⟩) (World.block_lt_of_cell? w _ hcs)).trans hcs
              have hu3 := (HS.out.below.cell (p := ⟨bt, ot + k, none⟩) (World.block_lt_of_cell? w _ HU2.out)).trans HU2.out
              obtain ⟨m1, hm1, hR1⟩ := HROW.out j (by omega)
              have hbd := HG.out.bd k hlt j hj32
              have hml : m = m1 := by rw [HM.out]; exact hR1.ol
              have hmn : m ≤ s.length := by rw [hml]; exact hR1.le
              have hkm : k < m := by have := HM0.out; omega
              have hwl := hR1.wl k (by omega)
              have hat : (s.row k).getD j 0 = s.at k j := rfl
              rw [hat] at hcs'
              have HSJ0 : Hid (s.at k j = ((foldTo (repCol s k) j (foldTo (repRow s) k [[]])).length : Int) → foldTo (repCol s k) (j + 1) (foldTo (repRow s) k [[]]) = foldTo (repCol s k) j (foldTo (repRow s) k [[]]) ++ [(foldTo (repCol s k) j (foldTo (repRow s) k [[]])).getD k [] ++ [letter j]]) := Lib.hid fun h => if_pos h
              have HSJ1 : Hid (s.at k j ≠ ((foldTo (repCol s k) j (foldTo (repRow s) k [[]])).length : Int) → foldTo (repCol s k) (j + 1) (foldTo (repRow s) k [[]]) = foldTo (repCol s k) j (foldTo (repRow s) k [[]])) := Lib.hid fun h => if_neg h
              rw [← HM.out] at HSJ0 HSJ1
              clear hcs hat hR1 hm1 hml
              generalize foldTo (repCol s k) j (foldTo (repRow s) k [[]]) = oj at *
              generalize s.at k j = x at *
              have hI1 : -9223372036854775808 ≤ x := by omega
              have hI3 : x ≤ 9223372036854775807 := by omega
              clear hbd
              have hm64 : (m : Int) ≤ 20000 := by omega
              by_cases hx : x = (m : Int)
              · have d5 : (x == (m : Int)) = true := by simpa using hx
                have HSJ := Lib.hid (HSJ0.out hx)
                have HM8 : Hid (m + 1 = (foldTo (repCol s k) (j + 1) (foldTo (repRow s) k [[]])).length) := Lib.hid (by rw [HSJ.out, List.length_append, HM.out]; rfl)
                obtain ⟨A5, c5, e5, ht1, ht2, ht3⟩ := HS.out.out.tab.open_
                obtain ⟨rfl, -, rfl⟩ := Value.slice.inj e5
                obtain ⟨b5, o5, rfl, hoc⟩ := ht3 (by have := HM.out; omega)
                obtain ⟨u5, hu5, hI5⟩ := hoc k (by have := HM.out; omega)
                have hu6 : (wr.alloc (.cells #[] 3)).cell? ⟨b5, o5 + k, none⟩ = some u5 := (((Below.refl wr.heap.size wr).alloc (Nat.le_refl _) (.cells #[] 3)).cell (p := ⟨b5, o5 + k, none⟩) (World.block_lt_of_cell? wr _ hu5)).trans hu5
                have hlt5 : b5 < wr.heap.size := World.block_lt_of_cell? wr _ hu5
                have hkm' : (k : Int) < (m : Int) := by omega
                have HF := Lib.hid hI5.2
                have HLB : Hid (-9223372036854775808 ≤ letter j ∧ letter j ≤ 9223372036854775807) := Lib.hid (by have := letter_bd (c := j) (by omega); omega)
                clear hx hoc ht3 e5
                (
                  obtain ⟨A7, c7, w5, hr5, hb5, ho5⟩ := run_copy Try.underlying25 hI5 (by omega)
                  obtain ⟨A8, c8, w6, hr6, hS6⟩ := (HS.out.with_row hb5 ho5).add (by decide) 25 Try.underlying25 (letter j) (by omega)
                  obtain ⟨A9, c9, w7, hr7, hS7⟩ := hS6.done (by decide) Try.underlying31 info25p (fits_snoc HF.out HLB.out) (by have := HM.out; omega)
                  rw [← HM.out] at hr7 hS7
                  have HR5 := Lib.hid hr5
                  have HR6 := Lib.hid hr6
                  have HR7 := Lib.hid hr7
                  rw [← HSJ.out] at hS7
                  have HS7 := Lib.hid hS7
                  clear hI5 hr5 hb5 ho5 hr6 hr7 hS6 hS7
                  have hl2 := letter_ltrI j
                  by_cases hpar : (j : Int) % 2 = 1
                  · have d6 : ((j : Int) % 2 == 1) = true := beq_iff_eq.2 hpar
                    have hle : letter j = -((j : Int) / 2 + 1) := by rw [hl2]; exact if_pos hpar
                    rw [hle] at HR6
                    clear hpar hle hl2
                    go_wp2_with (first
                      | ((with_reducible refine wpList_sel 75 ?_); refine wpList_val rfl (r_app (.tmp 70) (.tmp 74) 25 rfl rfl rfl HR5.out) ?_)
                      | ((with_reducible refine wpList_sel 78 ?_); refine wpList_val rfl (r_app (.tmp 75) (.tmp 77) 25 rfl rfl rfl HR6.out) ?_)
                      | ((with_reducible refine wpList_sel 80 ?_); refine wpList_val rfl (r_app (.tmp 69) (.tmp 79) 31 rfl rfl rfl HR7.out) ?_))
                    go_roundw
                    case rel => exact ⟨j + 1, m + 1, by go_num, by omega, HM8, _, _, _, rfl, HS7⟩
                    case measure => simp [intOf]; omega
                  · have d6 : ((j : Int) % 2 == 1) = false := beq_eq_false_iff_ne.2 hpar
                    have hle : letter j = (j : Int) / 2 + 1 := by rw [hl2]; exact if_neg hpar
                    rw [hle] at HR6
                    clear hpar hle hl2
                    go_wp2_with (first
                      | ((with_reducible refine wpList_sel 75 ?_); refine wpList_val rfl (r_app (.tmp 70) (.tmp 74) 25 rfl rfl rfl HR5.out) ?_)
                      | ((with_reducible refine wpList_sel 78 ?_); refine wpList_val rfl (r_app (.tmp 75) (.tmp 77) 25 rfl rfl rfl HR6.out) ?_)
                      | ((with_reducible refine wpList_sel 80 ?_); refine wpList_val rfl (r_app (.tmp 69) (.tmp 79) 31 rfl rfl rfl HR7.out) ?_))
                    go_roundw
                    case rel => exact ⟨j + 1, m + 1, by go_num, by omega, HM8, _, _, _, rfl, HS7⟩
                    case measure => simp [intOf]; omega
                )
              · have d5 : (x == (m : Int)) = false := by simpa using hx
                have HSJ := Lib.hid (HSJ1.out hx)
                rw [← HSJ.out] at HS HM
                clear hx
                go_wp2_with fail
                go_roundw
                case rel => exact ⟨j + 1, m, by go_num, by omega, HM, _, _, _, rfl, HS⟩
                case measure => simp [intOf]; omega
            · obtain rfl : j = 2 * g := by omega
              have he : foldTo (repRow s) (k + 1) [[]] = foldTo (repCol s k) (2 * g) (foldTo (repRow s) k [[]]) := by rw [← HRL.out]; rfl
              rw [← he] at HS HM
              clear he
              go_wp2_with fail
              go_roundw
              case rel => exact ⟨k + 1, m, by go_num, by omega, HM, _, _, _, rfl, HS⟩
              case measure => simp [intOf]; omega
        · obtain rfl : k = s.length := by omega
          have HT2 := Lib.hid HST.out.tabB
          have HBW := Lib.hid HST.out.below
          go_wp2_with fail
          go_ret2
          exact ⟨⟨_, ret_of2 rfl (by rw [HZ.out]), by rw [HZ.out]; exact HT2.out⟩, HBW.out⟩
    · have HZ := Lib.hid (HE1.out (by rw [hs]; simpa using hst))
      rw [hs] at HE2
      have HSM' : Hid (∀ w' u, Tab w' u s → Below w.heap.size w w' → Calls Try.prog 34 #[u, .slice (some ⟨bt, ot, none⟩) t.length c] w' fun e w'' => e = .returned (.bool false) ∧ ∃ q, w'' = w'.drewN q) := Lib.hid fun w' u hu hb => by
        have := HSM.out w' u s hu hb
        rwa [decide_eq_false hst] at this
      clear hs hst HSM
      go_enter Try.func51, Try.ntmps51
      go_wp2_with (first
        | (go_at_call 44; (refine HC.out.mono ?_); rintro e w1 ⟨rfl, hb⟩; have HB1 := Lib.hid hb; clear hb)
        | (go_at_call 49; (refine (HST'.out _ HB1.out).mono ?_); rintro e w2 ⟨⟨u, rfl, HU⟩, hb⟩; have HB2 := Lib.hid (HB1.out.trans (hb.mono HB1.out.size)); clear hb)
        | (go_at_call 34; (refine (HSM'.out _ _ HU.out HB2.out).mono ?_); rintro e w3 ⟨rfl, q, rfl⟩))
      go_ret2
      exact ⟨⟨.slice none 0 0, ret_of2 rfl (by rw [HZ.out]), by rw [HZ.out]; exact TabB.nil⟩, below_drewN HB2.out q⟩
end Go.Proofs
namespace Go.Proofs
open Go.RowKit Go.Shelf Go.Proofs.Ct Go.Maps

/-- the system of a table, as it reads -/
structure SysAt (w : World) (vt vr : Value) (bm : Nat) (vl : Value) (t : Tb) (R : List (List Int)) (ps : List (Nat × Nat)) : Prop where
  tab : Tab w vt t
  reps : Tab w vr R
  map : MapP w bm ps
  list : ∃ base, OwnP base w vl ps
theorem SysAt.below {w w' : World} {vt vr : Value} {bm : Nat} {vl : Value} {t : Tb} {R : List (List Int)} {ps : List (Nat × Nat)} (h : SysAt w vt vr bm vl t R ps) (hb : Below w.heap.size w w') : SysAt w' vt vr bm vl t R ps :=
  ⟨kept_tab.below h.tab hb, kept_tab.below h.reps hb, h.map.below hb, let ⟨base, hl⟩ := h.list; ⟨base, owns_below hl hb⟩⟩

def zero95 : Array Value := #[.slice none 0 0, .slice none 0 0, .map none, .slice none 0 0]
theorem build95z (w : World) : (Instr.build 95 #[]).run Try.prog w = .ok (.agg zero95) w := by kernel_rfl
theorem alloc95 (w : World) : (Instr.alloc 95 true (.tuple #[])).run Try.prog w = .ok (.pointer (some ⟨w.heap.size, 0, none⟩)) (w.alloc (.cells zero95 95)) := by kernel_rfl
theorem info95s : (Try.prog.info? 95).map (·.size) = some 4 := by kernel_rfl
section
variable {o : Oper} {a : Act} {w w' : World} {n : Nat} {v : Value}
theorem r_store95 (x y : Operand) (ho : o.op = .store 95 x y) (g : Nat) (old c' : Array Value) (hx : a.eval x = .pointer (some ⟨g, 0, none⟩)) (hy : a.eval y = .agg c') (hg : w.heap[g]? = some (.cells old 95 (0, 0)))
    (hi : c'.size = 4) (hoo : old.size = 4) (h1 : c'.all (·.oneCell') = true) : (execOp a.eval o).run Try.prog w = .ok .skip (w.setRow g c') := by
  unfold execOp
  simp only [ho, hx, hy, Instr.storeAt, Instr.sureAddr, Sem.run_bind, Sem.run_pure, Result.andThen_ok, run_storeVar_row w g 95 95 old c' hg (by rw [hi]; exact info95s) (by rw [hi, hoo]) h1]
theorem r_build95 (ho : o.op = .build 95 #[]) : (execOp a.eval o).run Try.prog w = .ok (.value (.agg zero95)) w := by
  have hb := build95z w
  unfold execOp
  simp only [ho, List.map_toArray, List.map_nil, Sem.run_bind, hb, Result.andThen_ok]
  rfl
theorem r_alloc95 (ho : o.op = .alloc 95) : (execOp a.eval o).run Try.prog w = .ok (.value (.pointer (some ⟨w.heap.size, 0, none⟩))) (w.alloc (.cells zero95 95)) := by
  have hb := alloc95 w
  unfold execOp
  simp only [ho, Sem.run_bind, hb, Result.andThen_ok]
  rfl
theorem r_load95 (x : Operand) (b : Nat) (v0 v1 v2 v3 : Value) (ho : o.op = .load 95 x) (hx : a.eval x = .pointer (some ⟨b, 0, none⟩)) (hc : w.heap[b]? = some (.cells #[v0, v1, v2, v3] 95 (0, 0))) : (execOp a.eval o).run Try.prog w = .ok (.value (.agg #[v0, v1, v2, v3])) w := by
  have hr : w.rangeAt b 0 [v0, v1, v2, v3] := fun j v hj => by rw [cell_of_row _ _ _ _ _ _ hc, Nat.zero_add]; simpa using hj
  unfold execOp
  simp only [ho, hx, Sem.run_bind, run_loadAt_mid (P := Try.prog) w b 0 95 [v0, v1, v2, v3] _ hr Try.underlying95 rfl (by kernel_rfl), Result.andThen_ok]
  rfl
theorem r_move (x : Operand) (ho : o.op = .move x) (hx : a.eval x = v) : (execOp a.eval o).run Try.prog w = .ok (.value v) w := by
  unfold execOp
  simp only [ho, hx]
  rfl
end
theorem results_95_tmp {fn : Func} {p q : Tmp} (h : fn.results = #[.cell p 95, .tmp q]) (tmps : Array Value) (w : World) (g : Nat) (cs : Array Value) (u : Value)
    (hp : tmps.getD p undef = .pointer (some ⟨g, 0, none⟩)) (hq : tmps.getD q undef = u) (hg : w.heap[g]? = some (.cells cs 95 (0, 0))) (hs : cs.size = 4) :
    (results fn tmps).run Try.prog w = .ok (.tuple #[.agg cs, u]) w := by
  have hp' : tmps[p]?.getD undef = .pointer (some ⟨g, 0, none⟩) := by simpa using hp
  have hq' : tmps[q]?.getD undef = u := by simpa using hq
  simp [results, h, hp', hq', asAddr, run_loadVar_row w g 95 95 cs (0, 0) _ hg Try.underlying95 rfl (by rw [hs]; exact info95s)]
theorem zero95_one : zero95.all (·.oneCell') = true := by simp [zero95, Value.oneCell']

theorem repsE_bad {g : Int} {t : Tb} (h : (repsE g t).2 ≠ 0) : (repsE g t).1 = [] := by
  unfold repsE at h ⊢
  split
  · rfl
  · split
    · rename_i h1 h2
      rw [if_neg h1, if_pos h2] at h
      exact absurd rfl h
    · rfl
theorem repsE_good {g : Int} {t : Tb} (h : (repsE g t).2 = 0) : ∃ gn : Nat, g = gn ∧ TGood gn t ∧ std t 0 = some t ∧ repsE g t = (reps t, 0) := by
  unfold repsE at h ⊢
  by_cases h1 : (check g t).1 ≠ 0
  · rw [if_pos h1] at h
    exact absurd h h1
  · rw [if_neg h1] at h ⊢
    by_cases h2 : std t 0 = some t
    · rw [if_pos h2]
      obtain ⟨h3, h4, -⟩ := check_good (Decidable.not_not.1 h1)
      exact ⟨g.toNat, by omega, h4, h2, rfl⟩
    · rw [if_neg h2] at h
      exact absurd h (by simp)
theorem reps50_any (w : World) (v : Value) (g : Int) (t : Tb) (ht : Tab w v t) : Calls Try.prog 50 #[.int .i64 g, v] w (RepsPost g t w) := by
  by_cases h : (check g t).1 = 0
  · obtain ⟨h0, h1, -⟩ := check_good h
    have e : g = ((g.toNat : Nat) : Int) := by omega
    rw [e]
    exact reps50_good w v g.toNat t ht h1
  · exact reps50_bad w v g t ht h
theorem reps51_any (w : World) (v : Value) (g : Int) (t : Tb) (ht : Tab w v t) : Calls Try.prog 51 #[.int .i64 g, v] w (RepsPost g t w) := by
  by_cases h : (check g t).1 = 0
  · obtain ⟨h0, h1, -⟩ := check_good h
    have e : g = ((g.toNat : Nat) : Int) := by omega
    rw [e]
    exact reps51_good w v g.toNat t ht h1
  · exact reps51_bad w v g t ht h

set_option maxRecDepth 100000 in
set_option maxHeartbeats 1000000 in
theorem of68_bad (w : World) (v : Value) (g : Int) (t : Tb) (ht : Tab w v t) (he : (repsE g t).2 ≠ 0) :
    Calls Try.prog 68 #[.int .i64 g, v] w fun e w' => e = .returned (.tuple #[.agg zero95, .int .i64 (repsE g t).2]) ∧ Below w.heap.size w w' := by
  have hb0 : Below w.heap.size w (w.alloc (.cells zero95 95)) := (Below.refl _ _).alloc (Nat.le_refl _) _
  have HC := Lib.hid (reps50_any _ v g t (kept_tab.below ht hb0))
  have hg0 := heap_alloc_new w (.cells zero95 95)
  have hsz0 : w.heap.size < (w.alloc (.cells zero95 95)).heap.size := by simp
  have HG0 := Lib.hid hg0
  have HB0 := Lib.hid hb0
  have HS0 := Lib.hid hsz0
  have d1 : ((repsE g t).2 != 0) = true := by simpa using he
  obtain ⟨A, c, rfl, hc1, hc2, hc⟩ := ht.open_
  clear hc ht hb0 hg0 hsz0
  have HC' : Hid (Calls Try.prog 50 #[.int .i64 g, .slice A t.length c] (w.alloc (.cells zero95 95)) fun e w' => (∃ u, e = .returned (.tuple #[u, .int .i64 (repsE g t).2])) ∧ Below (w.alloc (.cells zero95 95)).heap.size (w.alloc (.cells zero95 95)) w') :=
    Lib.hid (HC.out.mono fun e w' ⟨⟨u, h1, _⟩, h2⟩ => ⟨⟨u, h1⟩, h2⟩)
  clear HC
  generalize (repsE g t).2 = x at *
  clear he
  go_enter Try.func68, Try.ntmps68
  go_wp2_with (first
    | ((with_reducible refine wpList_sel 4 ?_); refine wpList_val rfl (r_alloc95 rfl) ?_)
    | (go_at_call 50; (refine HC'.out.mono ?_); rintro e w1 ⟨⟨u, rfl⟩, hb⟩
       have HB1 := Lib.hid hb
       have HG1 : Hid (w1.heap[w.heap.size]? = some (.cells zero95 95 (0, 0))) := Lib.hid ((hb.block _ HS0.out).trans HG0.out)
       clear hb)
    | ((with_reducible refine wpList_sel 20 ?_); refine wpList_val rfl (r_build95 rfl) ?_; refine wpList_val rfl (r_move (.tmp 7) rfl rfl) ?_; refine wpList_skip rfl (r_store95 (.tmp 4) (.tmp 20) rfl w.heap.size zero95 zero95 rfl rfl HG1.out rfl rfl zero95_one) ?_))
  try simp only [Exit.inBlock, Exit.then]
  refine bodyPost_ret (results_95_tmp (p := 4) (q := 5) rfl _ _ w.heap.size zero95 (.int .i64 x) rfl rfl (setRow_heap _ _ _ _ _ _ HG1.out) rfl) rfl ⟨rfl, ?_⟩
  exact (HB0.out.trans (HB1.out.mono HB0.out.size)).trans ⟨rfl, rfl, rfl, by rw [World.setRow]; simp, fun k hk => setRow_other _ _ k _ (by omega)⟩
end Go.Proofs
