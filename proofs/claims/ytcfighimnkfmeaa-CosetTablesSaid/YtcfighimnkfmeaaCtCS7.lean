/- cayleyref18.Reps; rewrite.of; rewrite.of at a standard table; rewrite.Count; rewrite.Generators; The iterator of (table).walk; A range over a function whose body never leaves the loop; the iterator may write one box of its own; A region that draws its order, by an invariant on its slots: each operation is shown once, whatever order the region is run in. Fenced walk; (system).rewrite; rewrite.Rewrite; Presentations: which are valid, plainly; the letters of a word; pres.Check; The references' checks of a presentation. -/
import Derived.Test.YtcfighimnkfmeaaCtCS6
import Derived.Deep.MidRow
import Derived.Deep.RegionHeld3
import Derived.Test.YtcfighimnkfmeaaCtCS1
import Derived.RangeFuncNested
import Derived.RangeFuncCalls
import Derived.OwnWalkIn
import Derived.TacticsInMore
import Derived.LoopNIn
import Derived.LoopIn
import Derived.RangeFuncFrom
import Derived.OrdersIn
import Derived.TacticsIn
import Derived.Deep.RegionHeld
import Derived.RangeFuncLeaves
namespace Go.Proofs
open Go.RowKit Go.Shelf Go.Proofs.Ct
set_option maxRecDepth 100000 in
set_option maxHeartbeats 1000000 in
theorem reps51_bad (w : World) (v : Value) (g : Int) (t : Tb) (ht : Tab w v t) (hb : (check g t).1 ≠ 0) : Calls Try.prog 51 #[.int .i64 g, v] w (RepsPost g t w) := by
  have HC := Lib.hid (check44_any w v g t ht)
  obtain ⟨A, c, rfl, hc1, hc2, hc⟩ := ht.open_
  clear hc ht
  have HE : Hid (repsE g t = ([], (check g t).1)) := Lib.hid (by unfold repsE; rw [if_pos hb])
  have d1 : ((check g t).1 != 0) = true := by simpa using hb
  have HC' : Hid (Calls Try.prog 44 #[.int .i64 g, .slice A t.length c] w fun e w' => (∃ y, e = .returned (.tuple #[.int .i64 (check g t).1, .int .i64 y])) ∧ Below w.heap.size w w') :=
    Lib.hid (HC.out.mono fun e w' ⟨h2, h3⟩ => ⟨⟨_, h2⟩, by obtain ⟨q, rfl⟩ := h3; exact below_drewN (Below.refl _ _) q⟩)
  clear HC
  generalize (check g t).1 = x at *
  clear hb
  go_enter Try.func51, Try.ntmps51
  go_wp2_with (go_at_call 44; (refine HC'.out.mono ?_); rintro e w' ⟨⟨y, rfl⟩, hb⟩; have HB := Lib.hid hb; clear hb)
  go_ret2
  exact ⟨⟨.slice none 0 0, ret_of2 rfl (by rw [HE.out]), by rw [HE.out]; exact TabB.nil⟩, HB.out⟩
set_option maxRecDepth 100000 in
set_option maxHeartbeats 2000000 in
theorem reps51_good (w : World) (v : Value) (g : Nat) (t : Tb) (ht : Tab w v t) (hg : TGood g t) : Calls Try.prog 51 #[.int .i64 g, v] w (RepsPost g t w) := by
  have hck := check_of_good hg
  have hn1 := hg.n1
  have HC : Hid (Calls Try.prog 44 #[.int .i64 (g : Int), v] w fun e w' => e = .returned (.tuple #[.int .i64 0, .int .i64 (-1)]) ∧ Below w.heap.size w w') :=
    Lib.hid ((check44_any w v g t ht).mono fun e w' ⟨h2, h3⟩ => by rw [hck] at h2; exact ⟨h2, by obtain ⟨q, rfl⟩ := h3; exact below_drewN (Below.refl _ _) q⟩)
  have HST : Hid (∀ w', Below w.heap.size w w' → Calls Try.prog 49 #[.int .i64 (g : Int), v, .int .i64 0] w' (StdPost g t 0 w')) := Lib.hid fun w' hb => std49_good w' v g t 0 (kept_tab.below ht hb) hg (by omega)
  have HE1 : Hid (std t 0 ≠ some t → repsE g t = ([], 13)) := Lib.hid fun h => by unfold repsE; rw [hck, if_neg (by simp), if_neg h]
  have HE2 : Hid (std t 0 = some t → repsE g t = (reps t, 0)) := Lib.hid fun h => by unfold repsE; rw [hck, if_neg (by simp), if_pos h]
  have HS1 : Hid (std t 0 = none → stdE g t 0 = ([], 13)) := Lib.hid fun h => by unfold stdE; rw [hck, if_neg (by simp), if_neg (by omega), h]
  have HS2 : Hid (∀ s, std t 0 = some s → stdE g t 0 = (s, 0)) := Lib.hid fun s h => by unfold stdE; rw [hck, if_neg (by simp), if_neg (by omega), h]
  have HSM : Hid (∀ w' u s, Tab w' u s → Below w.heap.size w w' → Calls Try.prog 34 #[u, v] w' fun e w'' => e = .returned (.bool (decide (s = t))) ∧ ∃ q, w'' = w'.drewN q) := Lib.hid fun w' u s hu hb => same18_any w' u v s t hu (kept_tab.below ht hb)
  have HTB := Lib.hid ht
  obtain ⟨A, c, rfl, hc1, hc2, hc⟩ := ht.open_
  have hn2 := hg.n2
  obtain ⟨bt, ot, rfl, hcell⟩ := hc (by omega)
  have HT := Lib.hid hcell
  have HG := Lib.hid hg
  have hg16 := hg.g16
  have hg16' : (g : Int) ≤ 16 := by omega
  have hg0 : (0 : Int) ≤ (g : Int) := Int.natCast_nonneg _
  have hn0 : (0 : Int) ≤ (t.length : Int) := Int.natCast_nonneg _
  clear hcell hc ht hck hg
  rcases hs : std t 0 with _ | s
  · have hSE := HS1.out hs
    have HST' : Hid (∀ w', Below w.heap.size w w' → Calls Try.prog 49 #[.int .i64 (g : Int), .slice (some ⟨bt, ot, none⟩) t.length c, .int .i64 0] w' fun e w'' => (∃ u, e = .returned (.tuple #[u, .int .i64 13])) ∧ Below w'.heap.size w' w'') := Lib.hid fun w' hb => (HST.out w' hb).mono fun e w'' ⟨⟨u, h1, h2⟩, h3⟩ => by
      rw [hSE] at h1
      exact ⟨⟨u, h1⟩, h3⟩
    have HZ := Lib.hid (HE1.out (by rw [hs]; simp))
    clear hs hSE
    go_enter Try.func51, Try.ntmps51
    go_wp2_with (first
      | (go_at_call 44; (refine HC.out.mono ?_); rintro e w1 ⟨rfl, hb⟩; have HB1 := Lib.hid hb; clear hb)
      | (go_at_call 49; (refine (HST'.out _ HB1.out).mono ?_); rintro e w2 ⟨⟨u, rfl⟩, hb⟩; have HB2 := Lib.hid (HB1.out.trans (hb.mono HB1.out.size)); clear hb))
    go_ret2
    exact ⟨⟨.slice none 0 0, ret_of2 rfl (by rw [HZ.out]), by rw [HZ.out]; exact TabB.nil⟩, HB2.out⟩
  · have hSE := HS2.out s hs
    have HST' : Hid (∀ w', Below w.heap.size w w' → Calls Try.prog 49 #[.int .i64 (g : Int), .slice (some ⟨bt, ot, none⟩) t.length c, .int .i64 0] w' fun e w'' => (∃ u, e = .returned (.tuple #[u, .int .i64 0]) ∧ Hid (Tab w'' u s)) ∧ Below w'.heap.size w' w'') := Lib.hid fun w' hb => (HST.out w' hb).mono fun e w'' ⟨⟨u, h1, h2⟩, h3⟩ => by
      rw [hSE] at h1 h2
      exact ⟨⟨u, h1, Lib.hid h2⟩, h3⟩
    clear HST hSE
    by_cases hst : s = t
    · subst hst
      have HZ := Lib.hid (HE2.out hs)
      have HSTD := Lib.hid (std_iff hs)
      have HSM' : Hid (∀ w' u, Tab w' u s → Below w.heap.size w w' → Calls Try.prog 34 #[u, .slice (some ⟨bt, ot, none⟩) s.length c] w' fun e w'' => e = .returned (.bool true) ∧ ∃ q, w'' = w'.drewN q) := Lib.hid fun w' u hu hb => by
        have := HSM.out w' u s hu hb
        rwa [decide_eq_true rfl] at this
      clear hs HSM
      go_enter Try.func51, Try.ntmps51
      go_wp2_with (first
        | (go_at_call 44; (refine HC.out.mono ?_); rintro e w1 ⟨rfl, hb⟩; have HB1 := Lib.hid hb; clear hb)
        | (go_at_call 49; (refine (HST'.out _ HB1.out).mono ?_); rintro e w2 ⟨⟨u, rfl, HU⟩, hb⟩; have HB2 := Lib.hid (HB1.out.trans (hb.mono HB1.out.size)); clear hb)
        | (go_at_call 34; (refine (HSM'.out _ _ HU.out HB2.out).mono ?_); rintro e w3 ⟨rfl, q, rfl⟩))
      have hot := OutSt.first (below_drewN HB2.out q)
      have HOT := Lib.hid hot
      clear hot
      go_loopw [10, 11] (fun so i wr => ∃ k m : Nat, i = .int .i64 k ∧ k ≤ s.length ∧ Hid (m = (foldTo (repRow s) k [[]]).length) ∧ ∃ F A c, so = .slice A m c ∧ Hid (OutSt 25 F w wr so (foldTo (repRow s) k [[]]))) (fun _ i _ => s.length - (intOf i).toNat)
      case atStart => exact ⟨0, 1, rfl, by omega, Lib.hid rfl, _, _, _, rfl, HOT⟩
      case round =>
        clear HOT
        obtain ⟨k, m, rfl, hk, HM, F, A2, c2, rfl, HST⟩ := hrel
        have hk0 : (0 : Int) ≤ (k : Int) := Int.natCast_nonneg _
        by_cases hlt : k < s.length
        · have hlt' : (k : Int) < (s.length : Int) := by omega
          obtain ⟨m0, hm0, ho0, hR0⟩ := rep_at HG.out HSTD.out k hk
          have hrow := rep_row HG.out HSTD.out hlt (hm0 hlt) ho0 hR0
          have HROW := Lib.hid hrow
          have HM0 := Lib.hid (hm0 hlt)
          have hrl := HG.out.len k hlt
          have HRL := Lib.hid hrl
          obtain ⟨u, hu, hI⟩ := HT.out k hlt
          have HU2 := Lib.hid hu
          have hI2 : IntsAt w u (s.row k) := hI
          obtain ⟨Au, cu, rfl, hu1, hu2, huc⟩ := hI2.open_
          obtain ⟨bu, ou, rfl, huc'⟩ := huc (by have := HG.out.g1; omega)
          have HUC := Lib.hid huc'
          have hu3 := (HST.out.below.cell (p := ⟨bt, ot + k, none⟩) (World.block_lt_of_cell? w _ HU2.out)).trans HU2.out
          clear hu hI hI2 huc huc' hrl hrow ho0 hR0 hm0
          go_wp2_with fail
          go_loopw [10, 12] (fun so i wr => ∃ j m : Nat, i = .int .i64 j ∧ j ≤ 2 * g ∧ Hid (m = (foldTo (repCol s k) j (foldTo (repRow s) k [[]])).length) ∧ ∃ F A c, so = .slice A m c ∧ Hid (OutSt 25 F w wr so (foldTo (repCol s k) j (foldTo (repRow s) k [[]])))) (fun _ i _ => 2 * g - (intOf i).toNat)
          case atStart => exact ⟨0, m, rfl, by omega, HM, _, _, _, rfl, HST⟩
          case round =>
            clear hu3 HST HM
            obtain ⟨j, m, rfl, hj, HM, F, A2, c2, rfl, HS⟩ := hrel
            have hj0 : (0 : Int) ≤ (j : Int) := Int.natCast_nonneg _
            by_cases hjl : j < 2 * g
            · have hjl3 : (j : Int) < (2 * (g : Int)) := by omega
              have hjl2 : j < (s.row k).length := by have := HRL.out; omega
              have hjl4 : (j : Int) < ((s.row k).length : Int) := by omega
              have hj32 : j < 2 * g := by have := HRL.out; omega
              have hcs := HUC.out j hjl2
              have hcs' := (HS.out.below.cell (p := ⟨bu, ou + j, none⟩) (World.block_lt_of_cell? w _ hcs)).trans hcs
              have hu3 := (HS.out.below.cell (p := ⟨bt, ot + k, none⟩) (World.block_lt_of_cell? w _ HU2.out)).trans HU2.out
              obtain ⟨m1, hm1, hR1⟩ := HROW.out j (by omega)
              have hbd := HG.out.bd k hlt j hj32
              have hml : m = m1 := by rw [HM.out]; exact hR1.ol
              have hmn : m ≤ s.length := by rw [hml]; exact hR1.le
              have hkm : k < m := by have := HM0.out; omega
              have hwl := hR1.wl k (by omega)
              have hat : (s.row k).getD j 0 = s.at k j := rfl
              rw [hat] at hcs'
              have HSJ0 : Hid (s.at k j = ((foldTo (repCol s k) j (foldTo (repRow s) k [[]])).length : Int) → foldTo (repCol s k) (j + 1) (foldTo (repRow s) k [[]]) = foldTo (repCol s k) j (foldTo (repRow s) k [[]]) ++ [(foldTo (repCol s k) j (foldTo (repRow s) k [[]])).getD k [] ++ [letter j]]) := Lib.hid fun h => if_pos h
              have HSJ1 : Hid (s.at k j ≠ ((foldTo (repCol s k) j (foldTo (repRow s) k [[]])).length : Int) → foldTo (repCol s k) (j + 1) (foldTo (repRow s) k [[]]) = foldTo (repCol s k) j (foldTo (repRow s) k [[]])) := Lib.hid fun h => if_neg h
              rw [← HM.out] at HSJ0 HSJ1
              clear hcs hat hR1 hm1 hml
              generalize foldTo (repCol s k) j (foldTo (repRow s) k [[]]) = oj at *
              generalize s.at k j = x at *
              have hI1 : -9223372036854775808 ≤ x := by omega
              have hI3 : x ≤ 9223372036854775807 := by omega
              clear hbd
              have hm64 : (m : Int) ≤ 20000 := by omega
              by_cases hx : x = (m : Int)
              · have d5 : (x == (m : Int)) = true := by simpa using hx
                have HSJ := Lib.hid (HSJ0.out hx)
                have HM8 : Hid (m + 1 = (foldTo (repCol s k) (j + 1) (foldTo (repRow s) k [[]])).length) := Lib.hid (by rw [HSJ.out, List.length_append, HM.out]; rfl)
                obtain ⟨A5, c5, e5, ht1, ht2, ht3⟩ := HS.out.out.tab.open_
                obtain ⟨rfl, -, rfl⟩ := Value.slice.inj e5
                obtain ⟨b5, o5, rfl, hoc⟩ := ht3 (by have := HM.out; omega)
                obtain ⟨u5, hu5, hI5⟩ := hoc k (by have := HM.out; omega)
                have hu6 : (wr.alloc (.cells #[] 3)).cell? ⟨b5, o5 + k, none⟩ = some u5 := (((Below.refl wr.heap.size wr).alloc (Nat.le_refl _) (.cells #[] 3)).cell (p := ⟨b5, o5 + k, none⟩) (World.block_lt_of_cell? wr _ hu5)).trans hu5
                have hlt5 : b5 < wr.heap.size := World.block_lt_of_cell? wr _ hu5
                have hkm' : (k : Int) < (m : Int) := by omega
                have HF := Lib.hid hI5.2
                have HLB : Hid (-9223372036854775808 ≤ letter j ∧ letter j ≤ 9223372036854775807) := Lib.hid (by have := letter_bd (c := j) (by omega); omega)
                clear hx hoc ht3 e5
                (
                  obtain ⟨A7, c7, w5, hr5, hb5, ho5⟩ := run_copy Try.underlying25 hI5 (by omega)
                  obtain ⟨A8, c8, w6, hr6, hS6⟩ := (HS.out.with_row hb5 ho5).add (by decide) 25 Try.underlying25 (letter j) (by omega)
                  obtain ⟨A9, c9, w7, hr7, hS7⟩ := hS6.done (by decide) Try.underlying31 info25p (fits_snoc HF.out HLB.out) (by have := HM.out; omega)
                  rw [← HM.out] at hr7 hS7
                  have HR5 := Lib.hid hr5
                  have HR6 := Lib.hid hr6
                  have HR7 := Lib.hid hr7
                  rw [← HSJ.out] at hS7
                  have HS7 := Lib.hid hS7
                  clear hI5 hr5 hb5 ho5 hr6 hr7 hS6 hS7
                  have hl2 := letter_ltrI j
                  by_cases hpar : (j : Int) % 2 = 1
                  · have d6 : ((j : Int) % 2 == 1) = true := beq_iff_eq.2 hpar
                    have hle : letter j = -((j : Int) / 2 + 1) := by rw [hl2]; exact if_pos hpar
                    rw [hle] at HR6
                    clear hpar hle hl2
                    go_wp2_with (first
                      | ((with_reducible refine wpList_sel 75 ?_); refine wpList_val rfl (r_app (.tmp 70) (.tmp 74) 25 rfl rfl rfl HR5.out) ?_)
                      | ((with_reducible refine wpList_sel 78 ?_); refine wpList_val rfl (r_app (.tmp 75) (.tmp 77) 25 rfl rfl rfl HR6.out) ?_)
                      | ((with_reducible refine wpList_sel 80 ?_); refine wpList_val rfl (r_app (.tmp 69) (.tmp 79) 31 rfl rfl rfl HR7.out) ?_))
                    go_roundw
                    case rel => exact ⟨j + 1, m + 1, by go_num, by omega, HM8, _, _, _, rfl, HS7⟩
                    case measure => simp [intOf]; omega
                  · have d6 : ((j : Int) % 2 == 1) = false := beq_eq_false_iff_ne.2 hpar
                    have hle : letter j = (j : Int) / 2 + 1 := by rw [hl2]; exact if_neg hpar
                    rw [hle] at HR6
                    clear hpar hle hl2
                    go_wp2_with (first
                      | ((with_reducible refine wpList_sel 75 ?_); refine wpList_val rfl (r_app (.tmp 70) (.tmp 74) 25 rfl rfl rfl HR5.out) ?_)
                      | ((with_reducible refine wpList_sel 78 ?_); refine wpList_val rfl (r_app (.tmp 75) (.tmp 77) 25 rfl rfl rfl HR6.out) ?_)
                      | ((with_reducible refine wpList_sel 80 ?_); refine wpList_val rfl (r_app (.tmp 69) (.tmp 79) 31 rfl rfl rfl HR7.out) ?_))
                    go_roundw
                    case rel => exact ⟨j + 1, m + 1, by go_num, by omega, HM8, _, _, _, rfl, HS7⟩
                    case measure => simp [intOf]; omega
                )
              · have d5 : (x == (m : Int)) = false := by simpa using hx
                have HSJ := Lib.hid (HSJ1.out hx)
                rw [← HSJ.out] at HS HM
                clear hx
                go_wp2_with fail
                go_roundw
                case rel => exact ⟨j + 1, m, by go_num, by omega, HM, _, _, _, rfl, HS⟩
                case measure => simp [intOf]; omega
            · obtain rfl : j = 2 * g := by omega
              have he : foldTo (repRow s) (k + 1) [[]] = foldTo (repCol s k) (2 * g) (foldTo (repRow s) k [[]]) := by rw [← HRL.out]; rfl
              rw [← he] at HS HM
              clear he
              go_wp2_with fail
              go_roundw
              case rel => exact ⟨k + 1, m, by go_num, by omega, HM, _, _, _, rfl, HS⟩
              case measure => simp [intOf]; omega
        · obtain rfl : k = s.length := by omega
          have HT2 := Lib.hid HST.out.tabB
          have HBW := Lib.hid HST.out.below
          go_wp2_with fail
          go_ret2
          exact ⟨⟨_, ret_of2 rfl (by rw [HZ.out]), by rw [HZ.out]; exact HT2.out⟩, HBW.out⟩
    · have HZ := Lib.hid (HE1.out (by rw [hs]; simpa using hst))
      rw [hs] at HE2
      have HSM' : Hid (∀ w' u, Tab w' u s → Below w.heap.size w w' → Calls Try.prog 34 #[u, .slice (some ⟨bt, ot, none⟩) t.length c] w' fun e w'' => e = .returned (.bool false) ∧ ∃ q, w'' = w'.drewN q) := Lib.hid fun w' u hu hb => by
        have := HSM.out w' u s hu hb
        rwa [decide_eq_false hst] at this
      clear hs hst HSM
      go_enter Try.func51, Try.ntmps51
      go_wp2_with (first
        | (go_at_call 44; (refine HC.out.mono ?_); rintro e w1 ⟨rfl, hb⟩; have HB1 := Lib.hid hb; clear hb)
        | (go_at_call 49; (refine (HST'.out _ HB1.out).mono ?_); rintro e w2 ⟨⟨u, rfl, HU⟩, hb⟩; have HB2 := Lib.hid (HB1.out.trans (hb.mono HB1.out.size)); clear hb)
        | (go_at_call 34; (refine (HSM'.out _ _ HU.out HB2.out).mono ?_); rintro e w3 ⟨rfl, q, rfl⟩))
      go_ret2
      exact ⟨⟨.slice none 0 0, ret_of2 rfl (by rw [HZ.out]), by rw [HZ.out]; exact TabB.nil⟩, below_drewN HB2.out q⟩
end Go.Proofs
namespace Go.Proofs
open Go.RowKit Go.Shelf Go.Proofs.Ct Go.Maps
/-- the system of a table, as it reads -/
structure SysAt (w : World) (vt vr : Value) (bm : Nat) (vl : Value) (t : Tb) (R : List (List Int)) (ps : List (Nat × Nat)) : Prop where
  tab : Tab w vt t
  reps : Tab w vr R
  map : MapP w bm ps
  list : ∃ base, OwnP base w vl ps
theorem SysAt.below {w w' : World} {vt vr : Value} {bm : Nat} {vl : Value} {t : Tb} {R : List (List Int)} {ps : List (Nat × Nat)} (h : SysAt w vt vr bm vl t R ps) (hb : Below w.heap.size w w') : SysAt w' vt vr bm vl t R ps :=
  ⟨kept_tab.below h.tab hb, kept_tab.below h.reps hb, h.map.below hb, let ⟨base, hl⟩ := h.list; ⟨base, owns_below hl hb⟩⟩
def zero95 : Array Value := #[.slice none 0 0, .slice none 0 0, .map none, .slice none 0 0]
section
variable {o : Oper} {a : Act} {w w' : World} {n : Nat} {v : Value}
theorem r_move (x : Operand) (ho : o.op = .move x) (hx : a.eval x = v) : (execOp a.eval o).run Try.prog w = .ok (.value v) w := by
  unfold execOp
  simp only [ho, hx]
  rfl
end
theorem reps50_any (w : World) (v : Value) (g : Int) (t : Tb) (ht : Tab w v t) : Calls Try.prog 50 #[.int .i64 g, v] w (RepsPost g t w) := by
  by_cases h : (check g t).1 = 0
  · obtain ⟨h0, h1, -⟩ := check_good h
    have e : g = ((g.toNat : Nat) : Int) := by omega
    rw [e]
    exact reps50_good w v g.toNat t ht h1
  · exact reps50_bad w v g t ht h
theorem reps51_any (w : World) (v : Value) (g : Int) (t : Tb) (ht : Tab w v t) : Calls Try.prog 51 #[.int .i64 g, v] w (RepsPost g t w) := by
  by_cases h : (check g t).1 = 0
  · obtain ⟨h0, h1, -⟩ := check_good h
    have e : g = ((g.toNat : Nat) : Int) := by omega
    rw [e]
    exact reps51_good w v g.toNat t ht h1
  · exact reps51_bad w v g t ht h
end Go.Proofs
namespace Go.Proofs
open Go.RowKit Go.Shelf Go.Proofs.Ct Go.Maps
/-- the system in the making: box, map, list -/
structure OfSt (w1 wr : World) (vt u vl : Value) (ps : List (Nat × Nat)) : Prop where
  below : Below w1.heap.size w1 wr
  box : wr.heap[w1.heap.size + 1]? = some (.cells #[vt, u, .map (some w1.heap.size), vl] 95 (0, 0))
  map : MapP wr w1.heap.size ps
  list : OwnP (w1.heap.size + 2) wr vl ps
theorem OfSt.below' {w1 wr w' : World} {vt u vl : Value} {ps : List (Nat × Nat)} (h : OfSt w1 wr vt u vl ps) (hb : Below wr.heap.size wr w') : OfSt w1 w' vt u vl ps :=
  ⟨h.below.trans (hb.mono h.below.size), (hb.block _ (Array.getElem?_eq_some_iff.1 h.box).1).trans h.box, h.map.below hb, owns_below h.list hb⟩
theorem OfSt.add {w1 wr : World} {vt u vl : Value} {ps : List (Nat × Nat)} (h : OfSt w1 wr vt u vl ps) {k j : Nat} (hs : Sml k j) (hn : (k, j) ∉ ps) (hl : ps.length ≤ 400000) :
    ∃ A' c' w5 w6, (Builtin.append_ #[91, 91] 91 #[vl, .slice (some ⟨wr.heap.size, 0, none⟩) 1 1]).run Try.prog (wr.alloc (.cells #[.int .i64 (k : Int), .int .i64 ((j : Int) + 1)] 102)) = .ok (.slice A' (ps.length + 1) c') w5 ∧
      w5.cell? ⟨w1.heap.size + 1, 2, none⟩ = some (.map (some w1.heap.size)) ∧ w5.cell? ⟨w1.heap.size + 1, 3, none⟩ = some vl ∧ w5.frozen? ⟨w1.heap.size + 1, 3, none⟩ = false ∧
      (Instr.mapUpdate 90 (.map (some w1.heap.size)) (.agg #[.int .i64 (k : Int), .int .i64 ((j : Int) + 1)]) (.int .i64 ((ps.length : Int) + 1))).run Try.prog (w5.setCell ⟨w1.heap.size + 1, 3, none⟩ (.slice A' (ps.length + 1) c')) = .ok () w6 ∧
      OfSt w1 w6 vt u (.slice A' (ps.length + 1) c') (ps ++ [(k, j)]) := by
  have h1 := h.below.size
  have hbs : w1.heap.size + 1 < wr.heap.size := (Array.getElem?_eq_some_iff.1 h.box).1
  obtain ⟨A', c', w5, hr, ho, hg⟩ := push_pair wr (w1.heap.size + 2) vl ps h.list (k, j) (by omega) (by omega)
  have hvb := owns_block2 h.list
  have hne : ∀ r, r < w1.heap.size + 2 → vl.ownBlock ≠ some r := fun r hr e => by have := (hvb r e).1; omega
  have hbox5 : w5.heap[w1.heap.size + 1]? = some (.cells #[vt, u, .map (some w1.heap.size), vl] 95 (0, 0)) := grown_cells hg h.box (hne _ (by omega))
  have hmap5 : MapP w5 w1.heap.size ps := h.map.kept hg (hne _ (by omega))
  have hbel5 : Below w1.heap.size w1 w5 := h.below.grown hg h1 (fun k hk => by have := (hvb k hk).1; omega)
  have hg6 := grown_setCell w5 (w1.heap.size + 1) 3 (.slice A' (ps.length + 1) c')
  have hmap6 : MapP (w5.setCell ⟨w1.heap.size + 1, 3, none⟩ (.slice A' (ps.length + 1) c')) w1.heap.size ps := hmap5.kept hg6 (fun e => by have := Option.some.inj e; omega)
  have hbox6 : (w5.setCell ⟨w1.heap.size + 1, 3, none⟩ (.slice A' (ps.length + 1) c')).heap[w1.heap.size + 1]? = some (.cells #[vt, u, .map (some w1.heap.size), .slice A' (ps.length + 1) c'] 95 (0, 0)) := by
    simp [World.setCell, Array.getElem?_modify, hbox5]
  have hlist6 : OwnP (w1.heap.size + 2) (w5.setCell ⟨w1.heap.size + 1, 3, none⟩ (.slice A' (ps.length + 1) c')) (.slice A' (ps.length + 1) c') (ps ++ [(k, j)]) := owns_keep ho fun r hr' => by
    obtain ⟨h2, C, hC⟩ := owns_block2 ho r hr'
    exact hg6.block r (Array.getElem?_eq_some_iff.1 hC).1 (fun e => by have := Option.some.inj e; omega)
  have hbel6 : Below w1.heap.size w1 (w5.setCell ⟨w1.heap.size + 1, 3, none⟩ (.slice A' (ps.length + 1) c')) := hbel5.grown hg6 hbel5.size (fun k hk => by have := Option.some.inj hk; omega)
  obtain ⟨w6, hrm, hm7, hg7⟩ := hmap6.put hs (by omega) hn
  have hne7 : ∀ {k : Nat} {C : Array Value} {e : TypeId} {fr : Nat × Nat}, (w5.setCell ⟨w1.heap.size + 1, 3, none⟩ (.slice A' (ps.length + 1) c')).heap[k]? = some (.cells C e fr) → (some w1.heap.size : Option Nat) ≠ some k := fun {k C e fr} hc e' => by
    obtain ⟨es, cl, hmo⟩ := hmap6.isMapObj
    have : w1.heap.size = k := Option.some.inj e'
    subst this
    rw [hmo] at hc; cases hc
  refine ⟨A', c', w5, w6, hr, ?_, ?_, ?_, hrm, hbel6.grown hg7 hbel6.size (fun k hk => by cases hk; exact Nat.le_refl _), grown_cells hg7 hbox6 (hne7 hbox6), hm7, owns_keep hlist6 fun r hr' => ?_⟩
  · rw [cell_of_row _ _ _ _ _ _ hbox5]; rfl
  · rw [cell_of_row _ _ _ _ _ _ hbox5]; rfl
  · simp [World.frozen?, hbox5]
  · obtain ⟨-, C, hC⟩ := owns_block2 hlist6 r hr'
    exact (grown_cells hg7 hC (hne7 hC)).trans hC.symm
theorem OfSt.first (w1 : World) (vt u : Value) : OfSt w1 (((w1.alloc (.map #[] 0)).alloc (.cells zero95 95)).setRow (w1.heap.size + 1) #[vt, u, .map (some w1.heap.size), .slice none 0 0]) vt u (.slice none 0 0) [] := by
  have hb1 : Below w1.heap.size w1 (w1.alloc (.map #[] 0)) := (Below.refl _ _).alloc (Nat.le_refl _) _
  have hm1 := MapP.made w1
  have hb2 : Below (w1.heap.size + 1) (w1.alloc (.map #[] 0)) ((w1.alloc (.map #[] 0)).alloc (.cells zero95 95)) := (Below.refl _ _).alloc (by simp) _
  have hnew := heap_alloc_new (w1.alloc (.map #[] 0)) (.cells zero95 95)
  rw [World.size_alloc] at hnew
  have hb3 : Below (w1.heap.size + 1) ((w1.alloc (.map #[] 0)).alloc (.cells zero95 95)) (((w1.alloc (.map #[] 0)).alloc (.cells zero95 95)).setRow (w1.heap.size + 1) #[vt, u, .map (some w1.heap.size), .slice none 0 0]) :=
    ⟨rfl, rfl, rfl, by rw [World.setRow]; simp, fun k hk => setRow_other _ _ k _ (by omega)⟩
  refine ⟨(hb1.trans (hb2.mono (Nat.le_succ _))).trans (hb3.mono (Nat.le_succ _)), setRow_heap _ _ _ _ _ _ hnew, ?_, World.ownsRow_nil _ _ _ _⟩
  exact (hm1.below (hb2.mono (by simp))).kept (row := some (w1.heap.size + 1)) ⟨hb3.os, hb3.tape, hb3.output, hb3.size, fun k hk hne => setRow_other _ _ k _ (fun e => hne (by rw [e]))⟩ (fun e => by have := Option.some.inj e; omega)
end Go.Proofs
namespace Go.Proofs
open Go.RowKit Go.Shelf Go.Proofs.Ct Go.Maps
theorem OwnP.form {base : Nat} {w : World} {v : Value} {ps : List (Nat × Nat)} (h : OwnP base w v ps) : ∃ A c, v = .slice A ps.length c := owns_form2 h
theorem Tab.form {w : World} {v : Value} {xs : List (List Int)} (h : Tab w v xs) : ∃ A c, v = .slice A xs.length c := let ⟨A, c, e, _⟩ := h.open_; ⟨A, c, e⟩
theorem below_boxed {w w1 : World} (hb : Below w.heap.size w w1) (o : Obj) (cs : Array Value) : Below w.heap.size w ((w1.alloc o).setRow w1.heap.size cs) := by
  have h1 := hb.size
  have h2 : Below w.heap.size w (w1.alloc o) := hb.alloc h1 _
  exact h2.trans ⟨rfl, rfl, rfl, by rw [World.setRow]; simp, fun k hk => setRow_other _ _ k _ (by omega)⟩
end Go.Proofs
namespace Go.Proofs
open Go.RowKit Go.Shelf Go.Proofs.Ct Go.Maps
section
variable {ops : Array Oper} {o : Oper} {a : Act} {w w' : World} {K : Act → World → Prop} {Q : Exit → Act → World → Prop} {E : Prop} {v : Value}
end
theorem OutSt2.done' {t e : TypeId} (he : e ≠ 3) (ht : Try.prog.underlying t = some (.slice e)) (hi : ∃ i, Try.prog.info? e = some i ∧ i.zero = some (.slice none 0 0) ∧ i.size = 1 ∧ i.bytes = 24) {F : Nat → Prop} {w0 wr : World} {vout : Value} {A : Option Addr} {n c : Nat} {rows : List (List Int)} {x : List Int} (h : OutSt2 e F w0 wr vout (.slice A n c) rows x) (hf : Fits x) (hl : rows.length ≤ 1000000) :
    ∃ A' c' w', (Builtin.append_ #[t, t] t #[vout, .slice (some ⟨wr.heap.size, 0, none⟩) 1 1]).run Try.prog (wr.alloc (.cells #[.slice A n c] e)) = .ok (.slice A' (rows.length + 1) c') w' ∧
      OutSt e (fun k => F k ∨ (Value.slice A n c).ownBlock = some k) w0 w' (.slice A' (rows.length + 1) c') (rows ++ [x]) ∧ wr.grownBy w' vout.ownBlock := by
  have hub := h.st.out.block
  have hrb := owns_block h.row
  have hne : ∀ {k : Nat} {C : Array Value} {fr : Nat × Nat}, wr.heap[k]? = some (.cells C 3 fr) → vout.ownBlock ≠ some k := fun {k C fr} hc e' => by
    obtain ⟨-, C', hC'⟩ := hub k e'
    rw [hc] at hC'
    injection hC' with h5
    injection h5 with _ h6 _
    exact he h6.symm
  have hF2 : ∀ k, (F k ∨ (Value.slice A n c).ownBlock = some k) → k < wr.heap.size ∧ vout.ownBlock ≠ some k := fun k hk => by
    rcases hk with hk | hk
    · obtain ⟨h1, h2, C, hC⟩ := h.st.fs k hk
      exact ⟨h2, hne hC⟩
    · obtain ⟨h1, C, hC⟩ := hrb k hk
      exact ⟨(Array.getElem?_eq_some_iff.1 hC).1, hne hC⟩
  obtain ⟨A', c', w', hr, ho', hg, hw⟩ := push_row (ty := t) ht hi wr w0.heap.size (fun k => F k ∨ (Value.slice A n c).ownBlock = some k) vout rows (h.st.out.keep (fun _ _ => rfl) (Ag.refl _ _) (fun k hk => .inl hk)) A n c x ((IntsF.of_own h.row hf).mono fun k hk => .inr hk) hF2 (by omega) h.st.below.size
  refine ⟨A', c', w', hr, ⟨h.st.below.grown hg h.st.below.size (fun k hk => (hub k hk).1), ho', fun k hk => ?_⟩, hg⟩
  have h2 := (hF2 k hk).1
  rcases hk with hk | hk
  · obtain ⟨h1, _, C, hC⟩ := h.st.fs k hk
    exact ⟨h1, Nat.lt_of_lt_of_le h2 hg.size, C, grown_cells hg hC (hne hC)⟩
  · obtain ⟨h1, C, hC⟩ := hrb k hk
    exact ⟨h1, Nat.lt_of_lt_of_le h2 hg.size, C, grown_cells hg hC (hne hC)⟩
end Go.Proofs
namespace Go.Proofs
open Go.RowKit Go.Shelf Go.Proofs.Ct Go.Maps
theorem wide_fn (f : FuncId) : Fence.wide.fn f := trivial
theorem wide_depth : Fence.wide.depth = none := rfl
attribute [local simp, local go_sem] wide_fn wide_depth
attribute [local go_sem] Oper.semAt_some
/-- what the walk's body leaves alone -/
def Kb (S : Nat → Prop) (A B : World) : Prop := B.os = A.os ∧ B.tape = A.tape ∧ B.output = A.output ∧ A.heap.size ≤ B.heap.size ∧ Ag S A B
/-- the iterator's own variables -/
structure WkSt (w0 wr : World) (bw br bt : Nat) (vw vt vr : Value) (r : Nat) : Prop where
  below : Below w0.heap.size w0 wr
  cw : wr.heap[bw]? = some (.cells #[vw] 25 (0, 0))
  ct : wr.heap[bt]? = some (.cells #[vt, vr] 89 (0, 0))
  cr : wr.heap[br]? = some (.cells #[.int .i64 (r : Int)] 3 (0, 0))
theorem WkSt.below' {w0 A B : World} {bw br bt : Nat} {vw vt vr : Value} {r : Nat} (h : WkSt w0 A bw br bt vw vt vr r) (hb : Below A.heap.size A B) : WkSt w0 B bw br bt vw vt vr r :=
  ⟨h.below.trans (hb.mono h.below.size), (hb.block _ (Array.getElem?_eq_some_iff.1 h.cw).1).trans h.cw, (hb.block _ (Array.getElem?_eq_some_iff.1 h.ct).1).trans h.ct, (hb.block _ (Array.getElem?_eq_some_iff.1 h.cr).1).trans h.cr⟩
theorem WkSt.set {w0 A : World} {bw br bt : Nat} {vw vt vr : Value} {r r' : Nat} (h : WkSt w0 A bw br bt vw vt vr r) (h0 : w0.heap.size ≤ br) : WkSt w0 (A.setCell ⟨br, 0, none⟩ (.int .i64 (r' : Int))) bw br bt vw vt vr r' := by
  have hne : ∀ k, k ≠ br → (A.setCell ⟨br, 0, none⟩ (.int .i64 (r' : Int))).heap[k]? = A.heap[k]? := fun k hk => Below.heap_setCell A ⟨br, 0, none⟩ _ k hk
  have h1 : bw ≠ br := fun e => by have := h.cw; rw [e, h.cr] at this; cases this
  have h2 : bt ≠ br := fun e => by have := h.ct; rw [e, h.cr] at this; cases this
  refine ⟨h.below.trans ⟨rfl, rfl, rfl, by simp [World.setCell], fun k hk => hne k (by omega)⟩, (hne _ h1).trans h.cw, (hne _ h2).trans h.ct, ?_⟩
  have := h.cr
  simp [World.setCell, Array.getElem?_modify, this]
theorem cell_of1 {w : World} {b : Nat} {v : Value} {e : TypeId} (h : w.heap[b]? = some (.cells #[v] e (0, 0))) : w.cell? ⟨b, 0, none⟩ = some v ∧ w.frozen? ⟨b, 0, none⟩ = false :=
  ⟨by rw [cell_of_row _ _ _ _ _ _ h]; rfl, by simp [World.frozen?, h]⟩
theorem cell_of2 {w : World} {b : Nat} {v u : Value} {e : TypeId} (h : w.heap[b]? = some (.cells #[v, u] e (0, 0))) : w.cell? ⟨b, 0, none⟩ = some v ∧ w.cell? ⟨b, 1, none⟩ = some u :=
  ⟨by rw [cell_of_row _ _ _ _ _ _ h]; rfl, by rw [cell_of_row _ _ _ _ _ _ h]; rfl⟩
/-- the letters are those of generators -/
def LetsOk (g : Nat) (w : List Int) : Prop := ∀ x ∈ w, -(g : Int) ≤ x ∧ x ≤ g ∧ x ≠ 0
theorem LetsOk.at_ {g : Nat} {w : List Int} (h : LetsOk g w) {k : Nat} (hk : k < w.length) : -(g : Int) ≤ w.getD k 0 ∧ w.getD k 0 ≤ g ∧ w.getD k 0 ≠ 0 := by
  rw [List.getD_eq_getElem?_getD, List.getElem?_eq_getElem hk]
  exact h _ (List.getElem_mem hk)
end Go.Proofs
namespace Go.Proofs
open Go.RowKit Go.Shelf Go.Proofs.Ct Go.Maps
/-- what a body does to a world: it writes its own box bo and blocks of cells from B on -/
structure Turned (bo B : Nat) (W W' : World) : Prop where
  os : W'.os = W.os
  tape : W'.tape = W.tape
  output : W'.output = W.output
  size : W.heap.size ≤ W'.heap.size
  block : ∀ k, k < W.heap.size → k ≠ bo → (k < B ∨ ∃ o : Obj, W.heap[k]? = some o ∧ o.isCells = false) → W'.heap[k]? = W.heap[k]?
theorem Turned.refl (bo B : Nat) (W : World) : Turned bo B W W := ⟨rfl, rfl, rfl, Nat.le_refl _, fun _ _ _ _ => rfl⟩
theorem Turned.trans {bo B : Nat} {W X Y : World} (h : Turned bo B W X) (k : Turned bo B X Y) : Turned bo B W Y :=
  ⟨k.os.trans h.os, k.tape.trans h.tape, k.output.trans h.output, Nat.le_trans h.size k.size, fun i hi hb hc =>
    (k.block i (Nat.lt_of_lt_of_le hi h.size) hb (hc.imp id fun ⟨o, ho, hn⟩ => ⟨o, (h.block i hi hb hc).trans ho, hn⟩)).trans (h.block i hi hb hc)⟩
theorem Turned.of_below {bo B : Nat} {W X : World} (h : Below W.heap.size W X) : Turned bo B W X := ⟨h.os, h.tape, h.output, h.size, fun i hi _ _ => h.block i hi⟩
theorem Turned.set {bo B : Nat} {W : World} (v : Value) : Turned bo B W (W.setCell ⟨bo, 0, none⟩ v) := ⟨rfl, rfl, rfl, by simp [World.setCell], fun i _ hb _ => Below.heap_setCell W ⟨bo, 0, none⟩ v i hb⟩
theorem Turned.grown {bo B : Nat} {W X : World} {row : Option Nat} (h : W.grownBy X row) (hr : ∀ r, row = some r → B ≤ r ∧ ∃ o : Obj, W.heap[r]? = some o ∧ o.isCells = true) : Turned bo B W X :=
  ⟨h.os, h.tape, h.output, h.size, fun i hi _ hc => h.block i hi fun e => by
    obtain ⟨h1, o, h2, h3⟩ := hr i e.symm
    rcases hc with hc | ⟨o', h4, h5⟩
    · omega
    · rw [h2] at h4; cases h4; rw [h3] at h5; cases h5⟩
theorem Kb.trans {S : Nat → Prop} {A B C : World} (h : Kb S A B) (k : Kb S B C) : Kb S A C :=
  ⟨k.1.trans h.1, k.2.1.trans h.2.1, k.2.2.1.trans h.2.2.1, Nat.le_trans h.2.2.2.1 k.2.2.2.1, h.2.2.2.2.trans k.2.2.2.2⟩
theorem Kb.put {S : Nat → Prop} {W : World} {l : Nat} {o : Obj} (hS : ∀ k, S k → k ≠ l) : Kb S W (W.putObj l o) :=
  ⟨rfl, rfl, rfl, by simp, fun k hk => World.putObj_heap_other (hS k hk)⟩
end Go.Proofs
namespace Go.Proofs
section
variable {F : Fence} {n : Nat} {P : Program} {ops : Array Oper} {Q : Exit → Act → World → Prop} {md : Region.Mode}
theorem count_set : ∀ (l : List Bool) (i : Nat), l[i]? = some false → (l.set i true).count false + 1 = l.count false
  | [], i, h => by simp at h
  | b :: l, 0, h => by
    simp at h
    subst h
    simp
  | b :: l, i + 1, h => by
    have ih := count_set l i (by simpa using h)
    simp only [List.set_cons_succ, List.count_cons]
    omega
theorem ready_mem {listed : Array Bool} {i : Nat} (h : i ∈ Region.ready md ops listed) : i < ops.size ∧ listed.getD i true = false ∧
    ∃ o, ops[i]? = some o ∧ ∀ e ∈ o.after.toList, Region.binds md e = true → listed.getD e.on false = true := by
  simp only [Region.ready, List.mem_filter, List.mem_range, Bool.and_eq_true, Bool.not_eq_true'] at h
  obtain ⟨h1, h2, h3⟩ := h
  refine ⟨h1, h2, ops[i], Array.getElem?_eq_getElem h1, fun e he hb => ?_⟩
  rw [Array.getElem?_eq_getElem h1] at h3
  simp only [Option.map_some, Option.getD_some] at h3
  rw [Array.all_eq_true_iff_forall_mem] at h3
  have := h3 e (by simpa using he)
  simpa [hb] using this
theorem wpAnyIn_inv (I : Array Bool → Act → World → Prop)
    (hstep : ∀ listed a w i, listed.size = ops.size → I listed a w → i ∈ Region.ready md ops listed → wpOpIn F n P ops Q i (I (listed.setIfInBounds i true)) a w)
    (hend : ∀ listed a w, listed.size = ops.size → I listed a w → Region.ready md ops listed = [] → Q .normal a w) :
    ∀ (fuel : Nat) (listed : Array Bool) (a : Act) (w : World), listed.size = ops.size → listed.toList.count false ≤ fuel → I listed a w → wpAnyIn F n P md ops Q fuel listed a w := by
  intro fuel
  induction fuel with
  | zero =>
    intro listed a w hs hc hI
    have hr : Region.ready md ops listed = [] := by
      rw [List.eq_nil_iff_forall_not_mem]
      intro i hi
      obtain ⟨h1, h2, _⟩ := ready_mem hi
      have hlt : i < listed.size := by omega
      have hf : listed[i] = false := by simpa [Array.getD, hlt] using h2
      have : false ∈ listed.toList := by rw [← hf]; simp
      have := List.count_pos_iff.2 this
      omega
    exact ⟨hr, hend _ _ _ hs hI hr⟩
  | succ fuel ih =>
    intro listed a w hs hc hI
    refine ⟨hend _ _ _ hs hI, fun i hi => ?_⟩
    obtain ⟨h1, h2, _⟩ := ready_mem hi
    have hlt : i < listed.size := by omega
    have hf : listed.toList[i]? = some false := by
      have : listed[i] = false := by simpa [Array.getD, hlt] using h2
      simp [hlt, this]
    have hcs := count_set listed.toList i hf
    refine wpOpIn_mono (fun a' w' h' => ih _ a' w' (by simpa using hs) ?_ h') (hstep listed a w i hs hI hi)
    rw [Array.toList_setIfInBounds]
    omega
/-- The frame but for the slots lo, lo+1, .., lo+N-1. -/
structure Same (a0 : Act) (lo N : Nat) (a : Act) : Prop where
  size : a.tmps.size = a0.tmps.size
  defers : a.defers = a0.defers
  out : ∀ t, t < lo ∨ lo + N ≤ t → a.tmps.getD t undef = a0.tmps.getD t undef
theorem Same.refl (a0 : Act) (lo N : Nat) : Same a0 lo N a0 := ⟨rfl, rfl, fun _ _ => rfl⟩
theorem Same.put {a0 a : Act} {lo N i : Nat} (h : Same a0 lo N a) (hi : i < N) (v : Value) : Same a0 lo N (a.put (some (lo + i)) v) :=
  ⟨by simpa [Act.put] using h.size, h.defers, fun t ht => by
    rw [← h.out t ht]
    have hne : lo + i ≠ t := by omega
    simp only [Act.put, Array.getD_eq_getD_getElem?]
    rw [Array.getElem?_setIfInBounds_ne hne]⟩
theorem put_getD_same (a : Act) (t : Nat) (v : Value) (h : t < a.tmps.size) : (a.put (some t) v).tmps.getD t undef = v := by
  simp [Act.put, Array.getD_eq_getD_getElem?, h]
theorem put_getD_ne (a : Act) (t u : Nat) (v : Value) (h : t ≠ u) : (a.put (some t) v).tmps.getD u undef = a.tmps.getD u undef := by
  simp only [Act.put, Array.getD_eq_getD_getElem?]
  rw [Array.getElem?_setIfInBounds_ne h]
/-- Every edge leads back; each of the first N operations has a successor up to N; operation N+1 waits for N. -/
structure Tailed (ops : Array Oper) (N : Nat) : Prop where
  size : ops.size = N + 2
  lex : ∀ (i : Nat) (o : Oper), ops[i]? = some o → ∀ e ∈ o.after.toList, e.on < i
  succ : ∀ i, i < N → ∃ (j : Nat) (o : Oper), i < j ∧ j ≤ N ∧ ops[j]? = some o ∧ ∃ e ∈ o.after.toList, e.on = i ∧ Region.binds .any e = true
  last : ∃ o : Oper, ops[N + 1]? = some o ∧ ∃ e ∈ o.after.toList, e.on = N ∧ Region.binds .any e = true
/-- listed is closed downwards -/
def Closed (ops : Array Oper) (listed : Array Bool) : Prop := ∀ (i : Nat) (o : Oper), ops[i]? = some o → listed.getD i false = true → ∀ e ∈ o.after.toList, Region.binds .any e = true → listed.getD e.on false = true
theorem getD_set_listed {listed : Array Bool} {i j : Nat} (hi : i < listed.size) : (listed.setIfInBounds i true).getD j false = if i = j then true else listed.getD j false := by
  simp only [Array.getD_eq_getD_getElem?]
  by_cases e : i = j
  · subst e; simp [hi]
  · rw [Array.getElem?_setIfInBounds_ne e, if_neg e]
theorem getD_true_false {listed : Array Bool} {i : Nat} (hi : i < listed.size) : listed.getD i true = listed.getD i false := by
  simp [Array.getD, hi]
section
variable {F : Fence} {n : Nat} {P : Program} {ops : Array Oper} {Q : Exit → Act → World → Prop}
theorem Tailed.before {N : Nat} (ht : Tailed ops N) {listed : Array Bool} (hc : Closed ops listed) {o : Oper} (ho : ops[N]? = some o) (hp : ∀ e ∈ o.after.toList, Region.binds .any e = true → listed.getD e.on false = true) :
    ∀ k i, i < N → N - i ≤ k → listed.getD i false = true := by
  intro k
  induction k with
  | zero => intro i hi hk; omega
  | succ k ih =>
    intro i hi hk
    obtain ⟨j, oj, hij, hjN, hoj, e, he, rfl, hb⟩ := ht.succ i hi
    rcases Nat.lt_or_ge j N with h | h
    · exact hc j oj hoj (ih j h (by omega)) e he hb
    · have : j = N := by omega
      subst this
      rw [ho] at hoj
      cases hoj
      exact hp e he hb
end
end
/-- The frame behind a region, written out. -/
theorem Same.frame {a0 a : Act} {lo N : Nat} (h : Same a0 lo N a) (hsz : lo + N ≤ a0.tmps.size) :
    a = { tmps := (a0.tmps.toList.take lo ++ (List.range N).map (fun i => a.tmps.getD (lo + i) undef) ++ a0.tmps.toList.drop (lo + N)).toArray, defers := a0.defers } := by
  obtain ⟨t, d⟩ := a
  have hd := h.defers
  have hs := h.size
  simp only at hd hs
  subst hd
  congr 1
  apply Array.ext'
  apply List.ext_getElem?
  intro k
  have hg : ∀ j, j < t.size → t.toList[j]? = some (t.getD j undef) := fun j hj => by simp [Array.getD, hj]
  have hg0 : ∀ j, j < a0.tmps.size → a0.tmps.toList[j]? = some (a0.tmps.getD j undef) := fun j hj => by simp [Array.getD, hj]
  rcases Nat.lt_or_ge k t.size with hk | hk
  · rw [hg k hk]
    rcases Nat.lt_or_ge k lo with h1 | h1
    · rw [List.getElem?_append_left (by simp; omega), List.getElem?_append_left (by simp; omega), List.getElem?_take, if_pos h1, hg0 k (by omega), h.out k (.inl h1)]
    · rcases Nat.lt_or_ge k (lo + N) with h2 | h2
      · rw [List.getElem?_append_left (by simp; omega), List.getElem?_append_right (by simp; omega)]
        have e : min lo a0.tmps.size = lo := by omega
        simp [e, List.getElem?_map, List.getElem?_range (show k - lo < N by omega), show lo + (k - lo) = k by omega]
      · rw [List.getElem?_append_right (by simp; omega)]
        have e : min lo a0.tmps.size = lo := by omega
        simp only [List.length_append, List.length_take, List.length_map, List.length_range, Array.length_toList, e, List.getElem?_drop]
        rw [show lo + N + (k - (lo + N)) = k by omega, hg0 k (by omega), h.out k (.inr h2)]
  · rw [List.getElem?_eq_none (by simpa using hk), List.getElem?_eq_none (by simp; omega)]
section
variable {o : Oper} {a : Act} {w w' : World} {n l : Nat} {next : Act → World → Prop} {Q : Exit → Act → World → Prop} {v : Value}
theorem r_fld {T i : Nat} (x : Operand) (ad : Value) (ho : o.op = .fieldAddr T x i) (hx : a.eval x = ad) (hf : (Instr.fieldAt T ad i).run Try.prog w = .ok v w) : (execOp a.eval o).run Try.prog w = .ok (.value v) w := by
  unfold execOp; simp only [ho, hx, Sem.run_bind, hf, Result.andThen_ok]; rfl
theorem r_call2 {f : FuncId} (x y : Operand) (u v : Value) (T : Array TypeId) (ho : o.op = .call { callee := .value (.func f), args := #[x, y], argTypes := T }) (hx : a.eval x = u) (hy : a.eval y = v)
    (he : ∀ args w, (callFunc f args).run Try.prog w = .ok (.enter f args) w) : (execOp a.eval o).run Try.prog w = .ok (.enter f #[u, v]) w := by
  have hf : a.eval (.func f) = .func (.func f) #[] #[] := rfl
  unfold execOp
  simp only [ho, resolve, List.map_toArray, List.map_cons, List.map_nil, hx, hy, hf]
  simp [go_sem, he]
end
end Go.Proofs
namespace Go.Proofs
open Go.RowKit Go.Shelf Go.Proofs.Ct Go.Maps
attribute [local simp, local go_sem] wide_fn wide_depth
attribute [local go_sem] Oper.semAt_some
section
variable {o : Oper} {a : Act} {w w' : World} {n : Nat} {Q : Exit → Act → World → Prop} {v : Value}
end
theorem wpOpIn_of {F : Fence} {n : Nat} {P : Program} {ops : Array Oper} {Q : Exit → Act → World → Prop} {i : Nat} {o : Oper} {K : Act → World → Prop} {a : Act} {w : World} (ho : ops[i]? = some o) (hg : o.guard = none) (h : o.wpIn F n P a w K Q) : wpOpIn F n P ops Q i K a w := by
  unfold wpOpIn
  rw [ho]
  simp only [Region.wanted, hg, if_true]
  exact h
theorem r_assign {o : Oper} {a : Act} {w : World} {v : Value} (x : Operand) (ho : o.op = .assign x) (hx : a.eval x = v) : (execOp a.eval o).run Try.prog w = .ok (.value v) w := by
  unfold execOp; simp only [ho, hx]; rfl
/-- the rewriting under way: its system's box, the list it writes -/
structure RwSt (w : World) (cs : Array Value) (B : Nat) (X : List Int) (W : World) : Prop where
  below : Below w.heap.size w W
  box : W.heap[w.heap.size]? = some (.cells cs 95 (0, 0))
  out : ∃ A c, W.heap[w.heap.size + 1]? = some (.cells #[.slice A X.length c] 25 (0, 0)) ∧ OwnI B W (.slice A X.length c) X
theorem RwSt.below' {w W W' : World} {cs : Array Value} {B : Nat} {X : List Int} (h : RwSt w cs B X W) (hb : Below W.heap.size W W') : RwSt w cs B X W' :=
  ⟨h.below.trans (hb.mono h.below.size), (hb.block _ (Array.getElem?_eq_some_iff.1 h.box).1).trans h.box, let ⟨A, c, h1, h2⟩ := h.out; ⟨A, c, (hb.block _ (Array.getElem?_eq_some_iff.1 h1).1).trans h1, owns_below h2 hb⟩⟩
theorem RwSt.other {w W W' : World} {cs : Array Value} {B : Nat} {X : List Int} (h : RwSt w cs B X W) (l : Nat) (h1 : w.heap.size + 1 < l) (he : W'.os = W.os ∧ W'.tape = W.tape ∧ W'.output = W.output ∧ W.heap.size ≤ W'.heap.size)
    (hk : ∀ k, k ≠ l → W'.heap[k]? = W.heap[k]?) (hl : l < B ∨ ∃ o : Obj, W.heap[l]? = some o ∧ o.isCells = false) : RwSt w cs B X W' := by
  refine ⟨h.below.trans ⟨he.1, he.2.1, he.2.2.1, he.2.2.2, fun k hk' => hk k (by omega)⟩, (hk _ (by omega)).trans h.box, ?_⟩
  obtain ⟨A, c, h2, h3⟩ := h.out
  refine ⟨A, c, (hk _ (by omega)).trans h2, owns_keep h3 fun r hr => hk r fun e => ?_⟩
  obtain ⟨h4, C, h5⟩ := owns_block h3 r hr
  rcases hl with hl | ⟨o, h6, h7⟩
  · omega
  · rw [e, h6] at h5; cases h5; cases h7
theorem RwSt.push {w W : World} {cs : Array Value} {B : Nat} {X : List Int} (h : RwSt w cs B X W) (hB : w.heap.size + 2 ≤ B) (hBW : B ≤ W.heap.size) (hX : X.length ≤ 1000000) (z : Int) : ∃ A c A' c' W', W.cell? ⟨w.heap.size + 1, 0, none⟩ = some (.slice A X.length c) ∧
    (Builtin.append_ #[25, 25] 25 #[.slice A X.length c, .slice (some ⟨W.heap.size, 0, none⟩) 1 1]).run Try.prog (W.alloc (.cells #[.int .i64 z] 3)) = .ok (.slice A' (X.length + 1) c') W' ∧
    (W'.cell? ⟨w.heap.size + 1, 0, none⟩ = some (.slice A X.length c) ∧ W'.frozen? ⟨w.heap.size + 1, 0, none⟩ = false) ∧
    Turned (w.heap.size + 1) B W (W'.setCell ⟨w.heap.size + 1, 0, none⟩ (.slice A' (X.length + 1) c')) ∧ RwSt w cs B (X ++ [z]) (W'.setCell ⟨w.heap.size + 1, 0, none⟩ (.slice A' (X.length + 1) c')) := by
  obtain ⟨A, c, h1, h2⟩ := h.out
  obtain ⟨A', c', W', hr, ho, hg, hw⟩ := push_int 25 25 Try.underlying25 W B _ X h2 z (by omega) hBW
  have hrow : ∀ r, (Value.slice A X.length c).ownBlock = some r → B ≤ r ∧ ∃ o : Obj, W.heap[r]? = some o ∧ o.isCells = true := fun r hr => by
    obtain ⟨h4, C, h5⟩ := owns_block h2 r hr
    exact ⟨h4, _, h5, rfl⟩
  have hne : ∀ k, k < W.heap.size → k < B → W'.heap[k]? = W.heap[k]? := fun k hk hkB => hg.block k hk fun e => by have := (hrow k e.symm).1; omega
  have hwl := h.below.size
  have h1lt := (Array.getElem?_eq_some_iff.1 h1).1
  have h1' := (hne _ h1lt (by omega)).trans h1
  have hset : ∀ k, k ≠ w.heap.size + 1 → (W'.setCell ⟨w.heap.size + 1, 0, none⟩ (.slice A' (X.length + 1) c')).heap[k]? = W'.heap[k]? := fun k hk => Below.heap_setCell W' ⟨w.heap.size + 1, 0, none⟩ _ k hk
  refine ⟨A, c, A', c', W', (cell_of1 h1).1, hr, cell_of1 h1', (Turned.grown hg hrow).trans (Turned.set _), ?_, ?_, A', c', ?_, ?_⟩
  · have hsz := hg.size
    exact h.below.trans ⟨hg.os, hg.tape, hg.output, by simpa [World.setCell] using hsz, fun k hk => (hset k (by omega)).trans (hne k (by omega) (by omega))⟩
  · exact (hset _ (by omega)).trans ((hne _ (by omega) (by omega)).trans h.box)
  · simp [World.setCell, Array.getElem?_modify, h1']
  · rw [List.length_append]
    refine owns_keep ho fun r hr' => hset r fun e => ?_
    obtain ⟨h4, C, h5⟩ := owns_block ho r hr'
    omega
end Go.Proofs
namespace Go.Proofs
open Go.RowKit Go.Shelf Go.Proofs.Ct Go.Maps
/-- no letter of a table of g generators -/
def letBad (g : Nat) (x : Int) : Bool := decide (x = 0) || decide (x < -(g : Int)) || decide ((g : Int) < x)
theorem letsOk_of {g : Nat} {w : List Int} (h : w.any (letBad g) = false) : LetsOk g w := fun x hx => by
  have := List.any_eq_false.1 h x hx
  unfold letBad at this
  simp at this
  omega
end Go.Proofs
namespace Go.Proofs
open Go.RowKit Go.Shelf Go.Proofs.Ct Go.Maps
/-- the error of the relator k -/
def presBad (g : Nat) (rels : List W) (k : Nat) : Int := if 4000 < sumTo rels (k + 1) then 4 else if (rels.getD k []).any (letBad g) = true then 2 else 0
def presE (g : Int) (rels : List W) : Int :=
  if g < 1 ∨ 16 < g then 2 else if 100 < rels.length then 4 else
  match first (fun k => decide (presBad g.toNat rels k ≠ 0)) rels.length with
  | some k => presBad g.toNat rels k
  | none => 0
theorem presE_some {g : Nat} {rels : List W} (hg : 1 ≤ g ∧ g ≤ 16) (hl : rels.length ≤ 100) {k : Nat} (hk : k < rels.length) (hz : ∀ j, j < k → presBad g rels j = 0) (hb : presBad g rels k ≠ 0) : presE g rels = presBad g rels k := by
  unfold presE
  rw [if_neg (by omega), if_neg (by omega), first_some hk (by simpa using hb) (fun j hj => by simpa using hz j hj)]
  rfl
theorem presE_none {g : Nat} {rels : List W} (hg : 1 ≤ g ∧ g ≤ 16) (hl : rels.length ≤ 100) (hz : ∀ j, j < rels.length → presBad g rels j = 0) : presE g rels = 0 := by
  unfold presE
  rw [if_neg (by omega), if_neg (by omega), first_none (fun j hj => by simpa using hz j hj)]
theorem pred121 (g B : Nat) (vr : Value) (w : World) (hg : g ≤ 16) (hc : w.cell? ⟨B, 0, none⟩ = some (.int .i64 (g : Int))) (_hc1 : w.cell? ⟨B, 1, none⟩ = some vr) :
    PredW 121 #[.pointer (some ⟨B, 0, none⟩)] (fun x => -9223372036854775808 ≤ x ∧ x ≤ 9223372036854775807) (letBad g) w := fun x q hx => by
  have hcq : (w.drewN q).cell? ⟨B, 0, none⟩ = some (.int .i64 (g : Int)) := hc
  show Calls Try.prog 121 #[.int .i64 x, .pointer (some ⟨B, 0, none⟩)] (w.drewN q) _
  have h0 : letBad g x = (decide (x = 0) || decide (x < -(g : Int)) || decide ((g : Int) < x)) := rfl
  have H0 := Lib.hid h0
  clear h0
  generalize hW : w.drewN q = W at *
  have HW := Lib.hid hW
  clear hW
  have hg0 : (0 : Int) ≤ (g : Int) := Int.natCast_nonneg _
  have hg1 : (g : Int) ≤ 16 := by omega
  by_cases h1 : x = 0
  · subst h1
    go_enter Try.func121, Try.ntmps121
    go_wp2_with fail
    go_ret
    exact ⟨ret_bool (by rw [H0.out]; simp), q, HW.out.symm⟩
  · have d1 : (x == 0) = false := by simpa using h1
    by_cases h2 : x < -(g : Int)
    · go_enter Try.func121, Try.ntmps121
      go_wp2_with fail
      go_ret
      exact ⟨ret_bool (by rw [H0.out]; simp [h2]), q, HW.out.symm⟩
    · by_cases h3 : (g : Int) < x
      · go_enter Try.func121, Try.ntmps121
        go_wp2_with fail
        go_ret
        exact ⟨ret_bool (by rw [H0.out]; simp [h3]), q, HW.out.symm⟩
      · go_enter Try.func121, Try.ntmps121
        go_wp2_with fail
        go_ret
        exact ⟨ret_bool (by rw [H0.out]; simp [h1, h2, h3]), q, HW.out.symm⟩
theorem eg121 : ∀ args w, (callFunc 121 args).run Try.prog w = .ok (.enter 121 args) w := enters_of Try.func121 (by kernel_rfl) rfl
end Go.Proofs
namespace Go.Proofs
open Go.RowKit Go.Shelf Go.Proofs.Ct Go.Maps
def PresPost (g : Int) (rels : List W) (w : World) (e : Ending) (w' : World) : Prop := (∃ y, e = .returned (.tuple #[.int .i64 (presE g rels), .int .i64 y])) ∧ Below w.heap.size w w'
theorem presE_range {g : Int} {rels : List W} (h : g < 1 ∨ 16 < g) : presE g rels = 2 := by unfold presE; rw [if_pos h]
theorem presE_many {g : Int} {rels : List W} (h : ¬ (g < 1 ∨ 16 < g)) (h2 : 100 < rels.length) : presE g rels = 4 := by unfold presE; rw [if_neg h, if_pos h2]
theorem sumTo_succ (rels : List W) (k : Nat) : sumTo rels (k + 1) = sumTo rels k + (rels.getD k []).length := rfl
theorem presBad_long {g : Nat} {rels : List W} {k : Nat} (h : 4000 < sumTo rels (k + 1)) : presBad g rels k = 4 := by unfold presBad; rw [if_pos h]
theorem presBad_let {g : Nat} {rels : List W} {k : Nat} (h : ¬ 4000 < sumTo rels (k + 1)) (h2 : (rels.getD k []).any (letBad g) = true) : presBad g rels k = 2 := by unfold presBad; rw [if_neg h, if_pos h2]
theorem presBad_ok {g : Nat} {rels : List W} {k : Nat} (h : ¬ 4000 < sumTo rels (k + 1)) (h2 : (rels.getD k []).any (letBad g) = false) : presBad g rels k = 0 := by unfold presBad; rw [if_neg h, h2]; rfl
set_option maxRecDepth 100000 in
set_option maxHeartbeats 1000000 in
theorem pcheck78_any (w : World) (vr : Value) (g : Int) (rels : List W) (hR : Tab w vr rels) : Calls Try.prog 78 #[.agg #[.int .i64 g, vr]] w (PresPost g rels w) := by
  obtain ⟨Ar, cr, rfl, r1, r2, r3⟩ := hR.open_
  have hbel : Below w.heap.size w (w.alloc (.cells #[.int .i64 g, .slice Ar rels.length cr] 40)) := (Below.refl _ _).alloc (Nat.le_refl _) _
  have HBE := Lib.hid hbel
  have HR := Lib.hid r3
  have hnew := heap_alloc_new w (.cells #[.int .i64 g, .slice Ar rels.length cr] 40)
  have hn0 : (0 : Int) ≤ (rels.length : Int) := Int.natCast_nonneg _
  by_cases h1 : g < 1 ∨ 16 < g
  · have HZ := Lib.hid (presE_range (rels := rels) h1)
    clear hR r3 hbel hnew
    by_cases h2 : g < 1
    · clear h1
      go_enter Try.func78, Try.ntmps78
      go_wp2_with fail
      go_ret2
      exact ⟨⟨_, ret_pair HZ.out.symm rfl⟩, HBE.out⟩
    · have h3 : 16 < g := by omega
      clear h1
      go_enter Try.func78, Try.ntmps78
      go_wp2_with fail
      go_ret2
      exact ⟨⟨_, ret_pair HZ.out.symm rfl⟩, HBE.out⟩
  · obtain ⟨gn, rfl⟩ : ∃ gn : Nat, g = gn := ⟨g.toNat, by omega⟩
    have hg1 : ¬ (gn : Int) < 1 := by omega
    have hg2 : ¬ (16 : Int) < (gn : Int) := by omega
    by_cases h4 : 100 < rels.length
    · have h4' : (100 : Int) < (rels.length : Int) := by omega
      have HZ := Lib.hid (presE_many (rels := rels) h1 h4)
      clear hR r3 hbel hnew h1 h4
      go_enter Try.func78, Try.ntmps78
      go_wp2_with fail
      go_ret2
      exact ⟨⟨_, ret_pair HZ.out.symm rfl⟩, HBE.out⟩
    · have h4' : ¬ (100 : Int) < (rels.length : Int) := by omega
      have h4'' : (rels.length : Int) ≤ 100 := by omega
      have HS : Hid (∀ k, k < rels.length → (∀ j, j < k → presBad gn rels j = 0) → presBad gn rels k ≠ 0 → presE (gn : Int) rels = presBad gn rels k) := Lib.hid fun k => presE_some (by omega) (by omega)
      have HN := Lib.hid (@presE_none gn rels (by omega) (by omega))
      have HP : Hid (∀ q, PredW 121 #[.pointer (some ⟨w.heap.size, 0, none⟩)] (fun x => -9223372036854775808 ≤ x ∧ x ≤ 9223372036854775807) (letBad gn) ((w.alloc (.cells #[.int .i64 (gn : Int), .slice Ar rels.length cr] 40)).drewN q)) := Lib.hid fun q => pred121 gn w.heap.size (.slice Ar rels.length cr) _ (by omega) (cell_of2 hnew).1 (cell_of2 hnew).2
      clear hR r3 hbel hnew h1 h4
      go_enter Try.func78, Try.ntmps78
      go_wp2_with fail
      generalize hw0 : w.alloc (.cells #[.int .i64 (gn : Int), .slice Ar rels.length cr] 40) = w0 at *
      clear hw0
      go_loopw [4, 24] (fun l i wr => ∃ k s : Nat, i = .int .i64 k ∧ k ≤ rels.length ∧ l = .int .i64 (4000 - (s : Int)) ∧ s ≤ 4000 ∧ Hid (s = sumTo rels k ∧ ∀ j, j < k → presBad gn rels j = 0) ∧ ∃ q, wr = w0.drewN q) (fun _ i _ => rels.length - (intOf i).toNat)
      case atStart => exact ⟨0, 0, rfl, by omega, rfl, by omega, Lib.hid ⟨rfl, fun j hj => absurd hj (by omega)⟩, 0, rfl⟩
      case round =>
        obtain ⟨k, s, rfl, hk, rfl, hs, HK, q, rfl⟩ := hrel
        have hk0 : (0 : Int) ≤ (k : Int) := Int.natCast_nonneg _
        by_cases hlt : k < rels.length
        · have hlt' : (k : Int) < (rels.length : Int) := by omega
          obtain ⟨b, o, rfl, hcc⟩ := HR.out (by omega)
          obtain ⟨u, hu, hI⟩ := hcc k hlt
          have hu' : (w0.drewN q).cell? ⟨b, o + k, none⟩ = some u := (HBE.out.cell (p := ⟨b, o + k, none⟩) (World.block_lt_of_cell? w _ hu)).trans hu
          have HI := Lib.hid (hI.below HBE.out)
          obtain ⟨Au, cu, rfl, u1, u2, -⟩ := hI.open_
          have HSU := Lib.hid (sumTo_succ rels k)
          have HBL := Lib.hid (@presBad_long gn rels k)
          have HBT := Lib.hid (@presBad_let gn rels k)
          have HBO := Lib.hid (@presBad_ok gn rels k)
          have HSK : Hid (presBad gn rels k ≠ 0 → presE gn rels = presBad gn rels k) := Lib.hid (HS.out k hlt HK.out.2)
          have HNX : Hid (presBad gn rels k = 0 → ∀ j, j < k + 1 → presBad gn rels j = 0) := Lib.hid fun h => all_succ HK.out.2 h
          have HSM := Lib.hid HK.out.1
          have HPR := Lib.hid (has74_any 121 _ _ _ (w0.drewN q) eg121 (HP.out q) _ (rels.getD k []) (HI.out.drewN q) (fun x hx => HI.out.2 x hx))
          have hln0 : (0 : Int) ≤ ((rels.getD k []).length : Int) := Int.natCast_nonneg _
          clear hcc hI hu HI HS HN HP HR
          generalize hpe : presE (gn : Int) rels = pe at *
          have HPE := Lib.hid hpe
          clear hpe
          generalize presBad gn rels k = pb at *
          generalize hsm : sumTo rels (k + 1) = sm at *
          have HSME := Lib.hid hsm
          clear hsm
          generalize (rels.getD k []).any (letBad gn) = lb at *
          generalize (rels.getD k []).length = L at *
          have hs0 : (0 : Int) ≤ (s : Int) := Int.natCast_nonneg _
          have hs1 : (s : Int) ≤ 4000 := by omega
          have hL1 : (L : Int) ≤ 9223372036854775807 := by omega
          by_cases hov : 4000 < s + L
          · have hov' : (4000 : Int) - (s : Int) - (L : Int) < 0 := by omega
            have HZ : Hid (pe = 4) := Lib.hid (by have h1 := HBL.out (by rw [HSU.out, ← HSM.out]; exact hov); rw [HSK.out (by omega), h1])
            clear hov
            go_wp2_with fail
            go_ret2
            exact ⟨⟨_, ret_pair (by rw [HPE.out, HZ.out]) rfl⟩, below_drewN HBE.out _⟩
          · have hov' : ¬ (4000 : Int) - (s : Int) - (L : Int) < 0 := by omega
            have HSV := Lib.hid hov
            have hsl : s + L ≤ 4000 := by omega
            clear hov
            cases lb with
            | true =>
              have HZ : Hid (pe = 2) := Lib.hid (by have h1 := HBT.out (by rw [HSU.out, ← HSM.out]; exact HSV.out) rfl; rw [HSK.out (by omega), h1])
              go_wp2_with (go_at_call 74; (refine HPR.out.mono ?_); rintro e w' ⟨rfl, q', rfl⟩)
              go_ret2
              exact ⟨⟨_, ret_pair (by rw [HPE.out, HZ.out]) rfl⟩, below_drewN HBE.out _⟩
            | false =>
              have HZ : Hid (∀ j, j < k + 1 → presBad gn rels j = 0) := Lib.hid (HNX.out (HBO.out (by rw [HSU.out, ← HSM.out]; exact HSV.out) rfl))
              go_wp2_with (go_at_call 74; (refine HPR.out.mono ?_); rintro e w' ⟨rfl, q', rfl⟩)
              go_roundw
              case rel => exact ⟨k + 1, s + L, by go_num, by omega, congrArg (Value.int .i64) (by omega), hsl, Lib.hid ⟨by rw [HSME.out, HSU.out, HSM.out], HZ.out⟩, (by first | exact ⟨_, rfl⟩ | exact ex_drewN)⟩
              case measure => simp [intOf]; omega
        · obtain rfl : k = rels.length := by omega
          have HZ := Lib.hid (HN.out HK.out.2)
          clear HS HN HP HR
          go_wp2_with fail
          go_ret2
          exact ⟨⟨_, ret_pair HZ.out.symm rfl⟩, below_drewN HBE.out _⟩
end Go.Proofs
namespace Go.Proofs
open Go.RowKit Go.Shelf Go.Proofs.Ct Go.Maps
set_option maxRecDepth 100000 in
set_option maxHeartbeats 400000 in
theorem letters96_any (w : World) (g : Nat) (v : Value) (ws : List Int) (hg : g ≤ 16) (hu : IntsAt w v ws) : Calls Try.prog 96 #[.int .i64 (g : Int), v] w fun e w' => e = .returned (.bool (!(ws.any (letBad g)))) ∧ w' = w := by
  obtain ⟨A, c, rfl, hu1, hu2, hu3⟩ := hu.open_
  have HC := Lib.hid hu3
  have hg0 : (0 : Int) ≤ (g : Int) := Int.natCast_nonneg _
  have hg1 : (g : Int) ≤ 16 := by omega
  clear hu hu3
  go_enter Try.func96, Try.ntmps96
  go_wp2_with fail
  go_loopw [5] (fun i wr => ∃ k : Nat, i = .int .i64 k ∧ k ≤ ws.length ∧ Hid (∀ j, j < k → letBad g (ws.getD j 0) = false) ∧ wr = w) (fun i _ => ws.length - (intOf i).toNat)
  case atStart => exact ⟨0, rfl, by omega, Lib.hid fun j hj => absurd hj (by omega), rfl⟩
  case round =>
    obtain ⟨k, rfl, hk, HZ1, rfl⟩ := hrel
    have hk0 : (0 : Int) ≤ (k : Int) := Int.natCast_nonneg _
    by_cases hlt : k < ws.length
    · have hlt' : (k : Int) < (ws.length : Int) := by omega
      obtain ⟨bw, ow, rfl, hcc⟩ := HC.out (by omega)
      have hck := hcc k hlt
      have HNX : Hid (letBad g (ws.getD k 0) = false → ∀ j, j < k + 1 → letBad g (ws.getD j 0) = false) := Lib.hid fun h => all_succ HZ1.out h
      have HBD : Hid (letBad g (ws.getD k 0) = true → ws.any (letBad g) = true) := Lib.hid fun h => any_true_of hlt h
      have h0 : letBad g (ws.getD k 0) = (decide (ws.getD k 0 = 0) || decide (ws.getD k 0 < -(g : Int)) || decide ((g : Int) < ws.getD k 0)) := rfl
      have H0 := Lib.hid h0
      clear hcc h0
      generalize letBad g (ws.getD k 0) = lb at *
      generalize ws.getD k 0 = x at *
      by_cases e1 : x = 0
      · have HZ := Lib.hid (HBD.out (by rw [H0.out]; simp [e1]))
        have d1 : (x == 0) = true := by simpa using e1
        clear e1
        go_wp2_with fail
        go_ret
        exact ⟨ret_bool (by rw [HZ.out]; rfl), (by first | trivial | rfl)⟩
      · have d1 : (x == 0) = false := by simpa using e1
        by_cases e2 : (g : Int) < x
        · have HZ := Lib.hid (HBD.out (by rw [H0.out]; simp [e2]))
          clear e1
          go_wp2_with fail
          go_ret
          exact ⟨ret_bool (by rw [HZ.out]; rfl), (by first | trivial | rfl)⟩
        · by_cases e3 : x < -(g : Int)
          · have HZ := Lib.hid (HBD.out (by rw [H0.out]; simp [e3]))
            clear e1
            go_wp2_with fail
            go_ret
            exact ⟨ret_bool (by rw [HZ.out]; rfl), (by first | trivial | rfl)⟩
          · have HZ2 := Lib.hid (HNX.out (by rw [H0.out]; simp [e1, e2, e3]))
            clear e1
            go_wp2_with fail
            go_roundw
            case rel => exact ⟨k + 1, by go_num, by omega, HZ2, (by first | trivial | rfl)⟩
            case measure => simp [intOf]; omega
    · obtain rfl : k = ws.length := by omega
      have HZ := Lib.hid (any_false_of HZ1.out)
      go_wp2_with fail
      go_ret
      exact ⟨ret_bool (by rw [HZ.out]; rfl), (by first | trivial | rfl)⟩
end Go.Proofs
