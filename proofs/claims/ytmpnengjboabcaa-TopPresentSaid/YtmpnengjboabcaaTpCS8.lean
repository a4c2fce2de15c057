/- (system).grows; coset.Reps and cayleyref18.Reps; rewrite.of; rewrite.of at a standard table; rewrite.Count; rewrite.Generators. -/
import Derived.Test.YtmpnengjboabcaaTpCS7
import Derived.Test.YtmpnengjboabcaaTpCS6
import Derived.Deep.MidRow
import Derived.Deep.RegionHeld3
import Derived.Test.YtmpnengjboabcaaTpCS1
namespace Go.Proofs
open Go.RowKit Go.Shelf Go.Proofs.Ct Go.Maps
theorem IntsAt.take {w : World} {A : Option Addr} {n c : Nat} {xs : List Int} (h : IntsAt w (.slice A n c) xs) {k : Nat} (hk : k ≤ n) : IntsAt w (.slice A k c) (xs.take k) := by
  obtain ⟨⟨A', n', c', e, h2, h3, h4, h5⟩, hf⟩ := h
  obtain ⟨rfl, rfl, rfl⟩ := Value.slice.inj e
  have hl : n = xs.length := by simpa [ints] using h2
  refine ⟨⟨A, k, c, rfl, by simp [ints]; omega, by omega, h4, fun hn => ?_⟩, fun x hx => hf x (List.mem_of_mem_take hx)⟩
  obtain ⟨b, off, ha, hr⟩ := h5 (by omega)
  refine ⟨b, off, ha, fun j v hv => hr j v ?_⟩
  have : ints (xs.take k) = (ints xs).take k := by simp [ints, List.map_take]
  rw [this, List.getElem?_take] at hv
  split at hv
  · exact hv
  · cases hv
theorem snoc_iff {a b : List Int} {x : Int} : b = a ++ [x] ↔ b.length = a.length + 1 ∧ b.getD a.length 0 = x ∧ a = b.take a.length := by
  constructor
  · rintro rfl
    refine ⟨by simp, by simp [List.getD_eq_getElem?_getD], by simp⟩
  · rintro ⟨h1, h2, h3⟩
    have h4 : b.take (a.length + 1) = b := List.take_of_length_le (by omega)
    rw [← h4, List.take_succ_eq_append_getElem (by omega), ← h3]
    congr 1
    rw [List.getD_eq_getElem?_getD, List.getElem?_eq_getElem (by omega)] at h2
    simpa using h2
set_option maxRecDepth 100000 in
set_option maxHeartbeats 1000000 in
theorem grows114_any (w : World) (vr : Value) (A0 A1 : Option Addr) (n0 c0 n1 c1 bm : Nat) (R : List (List Int)) (r to : Nat) (x : Int) (hR : Tab w vr R) (hr : r < R.length) (hto : to < R.length) (hb : ∀ j, (R.getD j []).length ≤ 100000) (hx : -1000 ≤ x ∧ x ≤ 1000) :
    Calls Try.prog 160 #[.agg #[.slice A0 n0 c0, vr, .map (some bm), .slice A1 n1 c1], .int .i64 (r : Int), .int .i64 x, .int .i64 (to : Int)] w fun e w' => e = .returned (.bool (decide (R.getD to [] = R.getD r [] ++ [x]))) ∧ Below w.heap.size w w' := by
  obtain ⟨Ar, cr, rfl, h1, h2, h3⟩ := hR.open_
  obtain ⟨br, or', rfl, h4⟩ := h3 (by omega)
  obtain ⟨ua, hua, hIa⟩ := h4 r hr
  obtain ⟨ub, hub, hIb⟩ := h4 to hto
  obtain ⟨Aa, ca, rfl, ha1, ha2, hac⟩ := hIa.open_
  obtain ⟨Ab, cb, rfl, hb1, hb2, hbc⟩ := hIb.open_
  have hbel : Below w.heap.size w (w.alloc (.cells #[.slice A0 n0 c0, .slice (some ⟨br, or', none⟩) R.length cr, .map (some bm), .slice A1 n1 c1] 102)) := (Below.refl _ _).alloc (Nat.le_refl _) _
  have hblt : br < w.heap.size := World.block_lt_of_cell? w _ hua
  have hua' := (hbel.cell (p := ⟨br, or' + r, none⟩) hblt).trans hua
  have hub' := (hbel.cell (p := ⟨br, or' + to, none⟩) hblt).trans hub
  have hIa' := hIa.below hbel
  have hIb' := hIb.below hbel
  have HB := Lib.hid hbel
  have HSN := Lib.hid (@snoc_iff (R.getD r []) (R.getD to []) x)
  have hbr := hb r
  have hbt := hb to
  have hr0 : (0 : Int) ≤ (r : Int) := Int.natCast_nonneg _
  have hr1 : (r : Int) < (R.length : Int) := by omega
  have ht0 : (0 : Int) ≤ (to : Int) := Int.natCast_nonneg _
  have ht1 : (to : Int) < (R.length : Int) := by omega
  have HF : Hid (∀ k, -9223372036854775808 ≤ (R.getD to []).getD k 0 ∧ (R.getD to []).getD k 0 ≤ 9223372036854775807) := Lib.hid fun k => hIb.2.at_ k
  obtain ⟨hx1, hx2⟩ := hx
  clear h3 h4 hR hIa hIb hbel hac hb
  generalize R.getD r [] = a at *
  generalize R.getD to [] = b at *
  have ha0 : (0 : Int) ≤ (a.length : Int) := Int.natCast_nonneg _
  have ha3 : (a.length : Int) ≤ 100000 := by omega
  have hb3 : (b.length : Int) ≤ 100000 := by omega
  by_cases hl : b.length = a.length + 1
  · obtain ⟨bb, ob, rfl, hbc'⟩ := hbc (by omega)
    have hcx := hbc' a.length (by omega)
    have hcx' := (HB.out.cell (p := ⟨bb, ob + a.length, none⟩) (World.block_lt_of_cell? w _ hcx)).trans hcx
    have hlI : ((b.length : Int) == (a.length : Int) + 1) = true := by simp; omega
    have hlI2 : (a.length : Int) < (b.length : Int) := by omega
    have hcapn : a.length ≤ cb := by omega
    have hcapI : (a.length : Int) ≤ (cb : Int) := by omega
    have hF := HF.out a.length
    have HL := Lib.hid hl
    clear hbc hbc' hl
    by_cases hy : b.getD a.length 0 = x
    · have hyI : (b.getD a.length 0 == x) = true := by simpa using hy
      have HY := Lib.hid hy
      have HQ := Lib.hid (fun q => equal143_any ((w.alloc (.cells #[.slice A0 n0 c0, .slice (some ⟨br, or', none⟩) R.length cr, .map (some bm), .slice A1 n1 c1] 102)).drewN q) _ _ a (b.take a.length) (hIa'.drewN q) ((hIb'.take (by omega)).drewN q))
      have HDEC : Hid (decide (b = a ++ [x]) = decide (a = b.take a.length)) := Lib.hid (decide_eq_decide.2 ⟨fun h => (HSN.out.1 h).2.2, fun h => HSN.out.2 ⟨HL.out, HY.out, h⟩⟩)
      clear hy hIa' hIb'
      generalize b.getD a.length 0 = y at *
      generalize decide (a = b.take a.length) = res at *
      generalize decide (b = a ++ [x]) = res2 at *
      go_enter Try.func160, Try.ntmps160
      go_wp2_with fail
      go_quiet (fail)
      go_wp2_with (go_at_call 191; (refine (HQ.out _).mono ?_); rintro e w' ⟨rfl, q, rfl⟩)
      go_ret
      exact ⟨ret_bool HDEC.out.symm, below_drewN HB.out _⟩
    · have hyI : (b.getD a.length 0 == x) = false := by simpa using hy
      have HDEC : Hid (decide (b = a ++ [x]) = false) := Lib.hid (decide_eq_false fun h => hy (HSN.out.1 h).2.1)
      clear hy hIa' hIb'
      generalize b.getD a.length 0 = y at *
      generalize decide (b = a ++ [x]) = res2 at *
      go_enter Try.func160, Try.ntmps160
      go_wp2_with fail
      go_quiet (fail)
      go_wp2_with fail
      go_ret
      exact ⟨ret_bool HDEC.out.symm, below_drewN HB.out _⟩
  · have hlI : ((b.length : Int) == (a.length : Int) + 1) = false := by simp; omega
    have HDEC : Hid (decide (b = a ++ [x]) = false) := Lib.hid (decide_eq_false fun h => hl (HSN.out.1 h).1)
    clear hl hIa' hIb'
    generalize decide (b = a ++ [x]) = res2 at *
    go_enter Try.func160, Try.ntmps160
    go_wp2_with fail
    go_quiet (fail)
    go_wp2_with fail
    go_ret
    exact ⟨ret_bool HDEC.out.symm, below_drewN HB.out _⟩
end Go.Proofs
namespace Go.Proofs
open Go.RowKit Go.Shelf Go.Proofs.Ct
def RepsPost (g : Int) (t : Tb) (w : World) (e : Ending) (w' : World) : Prop := (∃ u, e = .returned (.tuple #[u, .int .i64 (repsE g t).2]) ∧ TabB w.heap.size w' u (repsE g t).1) ∧ Below w.heap.size w w'
theorem letter_bd {c : Nat} (h : c ≤ 1000) : -1000000 ≤ letter c ∧ letter c ≤ 1000000 := by
  unfold letter
  split <;> omega
theorem fits_snoc {x : List Int} {z : Int} (h : Fits x) (hz : -9223372036854775808 ≤ z ∧ z ≤ 9223372036854775807) : Fits (x ++ [z]) := fun y hy => by
  rcases List.mem_append.1 hy with h' | h'
  · exact h y h'
  · have : y = z := by simpa using h'
    rw [this]; exact hz
theorem OutSt.first {w w2 : World} (hB : Below w.heap.size w w2) :
    OutSt 25 (fun k => k = w2.heap.size) w ((w2.alloc (.cells #[] 3)).alloc (.cells #[.slice (some ⟨w2.heap.size, 0, none⟩) 0 0] 25)) (.slice (some ⟨w2.heap.size + 1, 0, none⟩) 1 1) [[]] := by
  have hb := allocs_below [.cells #[] 3, .cells #[.slice (some ⟨w2.heap.size, 0, none⟩) 0 0] 25] w2 w2.heap.size (Nat.le_refl _)
  have e1 := allocs_get [.cells #[] 3, .cells #[.slice (some ⟨w2.heap.size, 0, none⟩) 0 0] 25] w2 0 _ rfl
  have e2 := allocs_get [.cells #[] 3, .cells #[.slice (some ⟨w2.heap.size, 0, none⟩) 0 0] 25] w2 1 _ rfl
  have h1 := hB.size
  refine ⟨hB.trans (hb.mono h1), ⟨[.slice (some ⟨w2.heap.size, 0, none⟩) 0 0], ⟨rfl, .inr ⟨w2.heap.size + 1, 1, _, rfl, by omega, e2, Nat.le_refl _, by simp [maxLen], rfl, rfl⟩⟩, rfl, fun j hj => ?_⟩, fun k hk => ?_⟩
  · obtain rfl : j = 0 := by simpa using hj
    refine ⟨_, rfl, fun w' _ => ⟨⟨_, 0, 0, rfl, rfl, Nat.le_refl _, by simp, fun h => absurd h (by omega)⟩, fun x hx => by cases hx⟩⟩
  · subst hk
    refine ⟨h1, by simp; omega, _, e1⟩
set_option maxRecDepth 100000 in
set_option maxHeartbeats 1000000 in
theorem reps50_bad (w : World) (v : Value) (g : Int) (t : Tb) (ht : Tab w v t) (hb : (check g t).1 ≠ 0) : Calls Try.prog 58 #[.int .i64 g, v] w (RepsPost g t w) := by
  have HC := Lib.hid (check43_any w v g t ht)
  obtain ⟨A, c, rfl, hc1, hc2, hc⟩ := ht.open_
  clear hc ht
  have HE : Hid (repsE g t = ([], (check g t).1)) := Lib.hid (by unfold repsE; rw [if_pos hb])
  have d1 : ((check g t).1 != 0) = true := by simpa using hb
  have HC' : Hid (Calls Try.prog 51 #[.int .i64 g, .slice A t.length c] w fun e w' => (∃ y, e = .returned (.tuple #[.int .i64 (check g t).1, .int .i64 y])) ∧ Below w.heap.size w w') :=
    Lib.hid (HC.out.mono fun e w' ⟨h2, h3⟩ => ⟨⟨_, h2⟩, h3⟩)
  clear HC
  generalize (check g t).1 = x at *
  clear hb
  go_enter Try.func58, Try.ntmps58
  go_wp2_with (go_at_call 51; (refine HC'.out.mono ?_); rintro e w' ⟨⟨y, rfl⟩, hb⟩; have HB := Lib.hid hb; clear hb)
  go_ret2
  exact ⟨⟨.slice none 0 0, ret_of2 rfl (by rw [HE.out]), by rw [HE.out]; exact TabB.nil⟩, HB.out⟩
set_option maxRecDepth 100000 in
set_option maxHeartbeats 2000000 in
theorem reps50_good (w : World) (v : Value) (g : Nat) (t : Tb) (ht : Tab w v t) (hg : TGood g t) : Calls Try.prog 58 #[.int .i64 g, v] w (RepsPost g t w) := by
  have hck := check_of_good hg
  have hn1 := hg.n1
  have HC : Hid (Calls Try.prog 51 #[.int .i64 (g : Int), v] w fun e w' => e = .returned (.tuple #[.int .i64 0, .int .i64 (-1)]) ∧ Below w.heap.size w w') :=
    Lib.hid ((check43_any w v g t ht).mono fun e w' ⟨h2, h3⟩ => by rw [hck] at h2; exact ⟨h2, h3⟩)
  have HST : Hid (∀ w', Below w.heap.size w w' → Calls Try.prog 56 #[.int .i64 (g : Int), v, .int .i64 0] w' (StdPost g t 0 w')) := Lib.hid fun w' hb => std48_good w' v g t 0 (kept_tab.below ht hb) hg (by omega) (by omega)
  have HE1 : Hid (std t 0 ≠ some t → repsE g t = ([], 13)) := Lib.hid fun h => by unfold repsE; rw [hck, if_neg (by simp), if_neg h]
  have HE2 : Hid (std t 0 = some t → repsE g t = (reps t, 0)) := Lib.hid fun h => by unfold repsE; rw [hck, if_neg (by simp), if_pos h]
  have HS1 : Hid (std t 0 = none → stdE g t 0 = ([], 13)) := Lib.hid fun h => by unfold stdE; rw [hck, if_neg (by simp), if_neg (by omega), h]
  have HS2 : Hid (∀ s, std t 0 = some s → stdE g t 0 = (s, 0)) := Lib.hid fun s h => by unfold stdE; rw [hck, if_neg (by simp), if_neg (by omega), h]
  have HSM : Hid (∀ w' u s, Tab w' u s → Below w.heap.size w w' → Calls Try.prog 133 #[u, v] w' fun e w'' => e = .returned (.bool (decide (s = t))) ∧ ∃ q, w'' = w'.drewN q) := Lib.hid fun w' u s hu hb => same109_any w' u v s t hu (kept_tab.below ht hb)
  have HTB := Lib.hid ht
  obtain ⟨A, c, rfl, hc1, hc2, hc⟩ := ht.open_
  have hn2 := hg.n2
  obtain ⟨bt, ot, rfl, hcell⟩ := hc (by omega)
  have HT := Lib.hid hcell
  have HG := Lib.hid hg
  have hg16 := hg.g16
  have hg16' : (g : Int) ≤ 16 := by omega
  have hg0 : (0 : Int) ≤ (g : Int) := Int.natCast_nonneg _
  have hn0 : (0 : Int) ≤ (t.length : Int) := Int.natCast_nonneg _
  clear hcell hc ht hck hg
  rcases hs : std t 0 with _ | s
  · have hSE := HS1.out hs
    have HST' : Hid (∀ w', Below w.heap.size w w' → Calls Try.prog 56 #[.int .i64 (g : Int), .slice (some ⟨bt, ot, none⟩) t.length c, .int .i64 0] w' fun e w'' => (∃ u, e = .returned (.tuple #[u, .int .i64 13])) ∧ Below w'.heap.size w' w'') := Lib.hid fun w' hb => (HST.out w' hb).mono fun e w'' ⟨⟨u, h1, h2⟩, h3⟩ => by
      rw [hSE] at h1
      exact ⟨⟨u, h1⟩, h3⟩
    have HZ := Lib.hid (HE1.out (by rw [hs]; simp))
    clear hs hSE
    go_enter Try.func58, Try.ntmps58
    go_wp2_with (first
      | (go_at_call 51; (refine HC.out.mono ?_); rintro e w1 ⟨rfl, hb⟩; have HB1 := Lib.hid hb; clear hb)
      | (go_at_call 56; (refine (HST'.out _ HB1.out).mono ?_); rintro e w2 ⟨⟨u, rfl⟩, hb⟩; have HB2 := Lib.hid (HB1.out.trans (hb.mono HB1.out.size)); clear hb))
    go_ret2
    exact ⟨⟨.slice none 0 0, ret_of2 rfl (by rw [HZ.out]), by rw [HZ.out]; exact TabB.nil⟩, HB2.out⟩
  · have hSE := HS2.out s hs
    have HST' : Hid (∀ w', Below w.heap.size w w' → Calls Try.prog 56 #[.int .i64 (g : Int), .slice (some ⟨bt, ot, none⟩) t.length c, .int .i64 0] w' fun e w'' => (∃ u, e = .returned (.tuple #[u, .int .i64 0]) ∧ Hid (Tab w'' u s)) ∧ Below w'.heap.size w' w'') := Lib.hid fun w' hb => (HST.out w' hb).mono fun e w'' ⟨⟨u, h1, h2⟩, h3⟩ => by
      rw [hSE] at h1 h2
      exact ⟨⟨u, h1, Lib.hid h2⟩, h3⟩
    clear HST hSE
    by_cases hst : s = t
    · subst hst
      have HZ := Lib.hid (HE2.out hs)
      have HSTD := Lib.hid (std_iff hs)
      have HSM' : Hid (∀ w' u, Tab w' u s → Below w.heap.size w w' → Calls Try.prog 133 #[u, .slice (some ⟨bt, ot, none⟩) s.length c] w' fun e w'' => e = .returned (.bool true) ∧ ∃ q, w'' = w'.drewN q) := Lib.hid fun w' u hu hb => by
        have := HSM.out w' u s hu hb
        rwa [decide_eq_true rfl] at this
      clear hs HSM
      go_enter Try.func58, Try.ntmps58
      go_wp2_with (first
        | (go_at_call 51; (refine HC.out.mono ?_); rintro e w1 ⟨rfl, hb⟩; have HB1 := Lib.hid hb; clear hb)
        | (go_at_call 56; (refine (HST'.out _ HB1.out).mono ?_); rintro e w2 ⟨⟨u, rfl, HU⟩, hb⟩; have HB2 := Lib.hid (HB1.out.trans (hb.mono HB1.out.size)); clear hb)
        | (go_at_call 133; (refine (HSM'.out _ _ HU.out HB2.out).mono ?_); rintro e w3 ⟨rfl, q, rfl⟩))
      have hot := OutSt.first (below_drewN HB2.out q)
      have HOT := Lib.hid hot
      clear hot
      go_loopw [10, 11] (fun so i wr => ∃ k m : Nat, i = .int .i64 k ∧ k ≤ s.length ∧ Hid (m = (foldTo (repRow s) k [[]]).length) ∧ ∃ F A c, so = .slice A m c ∧ Hid (OutSt 25 F w wr so (foldTo (repRow s) k [[]]))) (fun _ i _ => s.length - (intOf i).toNat)
      case atStart => exact ⟨0, 1, rfl, by omega, Lib.hid rfl, _, _, _, rfl, HOT⟩
      case round =>
        clear HOT
        obtain ⟨k, m, rfl, hk, HM, F, A2, c2, rfl, HST⟩ := hrel
        have hk0 : (0 : Int) ≤ (k : Int) := Int.natCast_nonneg _
        by_cases hlt : k < s.length
        · have hlt' : (k : Int) < (s.length : Int) := by omega
          obtain ⟨m0, hm0, ho0, hR0⟩ := rep_at HG.out HSTD.out k hk
          have hrow := rep_row HG.out HSTD.out hlt (hm0 hlt) ho0 hR0
          have HROW := Lib.hid hrow
          have HM0 := Lib.hid (hm0 hlt)
          have hrl := HG.out.len k hlt
          have HRL := Lib.hid hrl
          obtain ⟨u, hu, hI⟩ := HT.out k hlt
          have HU2 := Lib.hid hu
          have hI2 : IntsAt w u (s.row k) := hI
          obtain ⟨Au, cu, rfl, hu1, hu2, huc⟩ := hI2.open_
          obtain ⟨bu, ou, rfl, huc'⟩ := huc (by have := HG.out.g1; omega)
          have HUC := Lib.hid huc'
          have hu3 := (HST.out.below.cell (p := ⟨bt, ot + k, none⟩) (World.block_lt_of_cell? w _ HU2.out)).trans HU2.out
          clear hu hI hI2 huc huc' hrl hrow ho0 hR0 hm0
          go_wp2_with fail
          go_loopw [10, 50] (fun so i wr => ∃ j m : Nat, i = .int .i64 j ∧ j ≤ (s.row k).length ∧ Hid (m = (foldTo (repCol s k) j (foldTo (repRow s) k [[]])).length) ∧ ∃ F A c, so = .slice A m c ∧ Hid (OutSt 25 F w wr so (foldTo (repCol s k) j (foldTo (repRow s) k [[]])))) (fun _ i _ => (s.row k).length - (intOf i).toNat)
          case atStart => exact ⟨0, m, rfl, by omega, HM, _, _, _, rfl, HST⟩
          case round =>
            clear hu3 HST HM
            obtain ⟨j, m, rfl, hj, HM, F, A2, c2, rfl, HS⟩ := hrel
            have hj0 : (0 : Int) ≤ (j : Int) := Int.natCast_nonneg _
            by_cases hjl : j < (s.row k).length
            · have hjl3 : (j : Int) < (((s.row k).length : Int)) := by omega
              have hjl2 : j < (s.row k).length := by have := HRL.out; omega
              have hjl4 : (j : Int) < ((s.row k).length : Int) := by omega
              have hj32 : j < 2 * g := by have := HRL.out; omega
              have hcs := HUC.out j hjl2
              have hcs' := (HS.out.below.cell (p := ⟨bu, ou + j, none⟩) (World.block_lt_of_cell? w _ hcs)).trans hcs
              have hu3 := (HS.out.below.cell (p := ⟨bt, ot + k, none⟩) (World.block_lt_of_cell? w _ HU2.out)).trans HU2.out
              obtain ⟨m1, hm1, hR1⟩ := HROW.out j (by omega)
              have hbd := HG.out.bd k hlt j hj32
              have hml : m = m1 := by rw [HM.out]; exact hR1.ol
              have hmn : m ≤ s.length := by rw [hml]; exact hR1.le
              have hkm : k < m := by have := HM0.out; omega
              have hwl := hR1.wl k (by omega)
              have hat : (s.row k).getD j 0 = s.at k j := rfl
              rw [hat] at hcs'
              have HSJ0 : Hid (s.at k j = ((foldTo (repCol s k) j (foldTo (repRow s) k [[]])).length : Int) → foldTo (repCol s k) (j + 1) (foldTo (repRow s) k [[]]) = foldTo (repCol s k) j (foldTo (repRow s) k [[]]) ++ [(foldTo (repCol s k) j (foldTo (repRow s) k [[]])).getD k [] ++ [letter j]]) := Lib.hid fun h => if_pos h
              have HSJ1 : Hid (s.at k j ≠ ((foldTo (repCol s k) j (foldTo (repRow s) k [[]])).length : Int) → foldTo (repCol s k) (j + 1) (foldTo (repRow s) k [[]]) = foldTo (repCol s k) j (foldTo (repRow s) k [[]])) := Lib.hid fun h => if_neg h
              rw [← HM.out] at HSJ0 HSJ1
              clear hcs hat hR1 hm1 hml
              generalize foldTo (repCol s k) j (foldTo (repRow s) k [[]]) = oj at *
              generalize s.at k j = x at *
              have hI1 : -9223372036854775808 ≤ x := by omega
              have hI3 : x ≤ 9223372036854775807 := by omega
              clear hbd
              have hm64 : (m : Int) ≤ 20000 := by omega
              by_cases hx : x = (m : Int)
              · have d5 : (x == (m : Int)) = true := by simpa using hx
                have HSJ := Lib.hid (HSJ0.out hx)
                have HM8 : Hid (m + 1 = (foldTo (repCol s k) (j + 1) (foldTo (repRow s) k [[]])).length) := Lib.hid (by rw [HSJ.out, List.length_append, HM.out]; rfl)
                obtain ⟨A5, c5, e5, ht1, ht2, ht3⟩ := HS.out.out.tab.open_
                obtain ⟨rfl, -, rfl⟩ := Value.slice.inj e5
                obtain ⟨b5, o5, rfl, hoc⟩ := ht3 (by have := HM.out; omega)
                obtain ⟨u5, hu5, hI5⟩ := hoc k (by have := HM.out; omega)
                have hkm' : (k : Int) < (m : Int) := by omega
                have HF := Lib.hid hI5.2
                have HLB : Hid (-9223372036854775808 ≤ letter j ∧ letter j ≤ 9223372036854775807) := Lib.hid (by have := letter_bd (c := j) (by omega); omega)
                clear hx hoc ht3 e5
                (
                  have HCL := Lib.hid (clone71_any wr u5 (oj.getD k []) hI5 (by omega))
                  clear hI5
                  go_wp2_with (first
                    | (go_at_call 95; (refine HCL.out.mono ?_); rintro e w5 ⟨A7, c7, rfl, ho, hb⟩
                       obtain ⟨A8, c8, w6, hr6, hS6⟩ := (HS.out.with_row hb ho).add (by decide) 25 Try.underlying25 (letter j) (by omega)
                       obtain ⟨A9, c9, w7, hr7, hS7⟩ := hS6.done (by decide) Try.underlying31 info25p (fits_snoc HF.out HLB.out) (by have := HM.out; omega)
                       rw [← HM.out] at hr7 hS7
                       have HR6 := Lib.hid hr6
                       have HR7 := Lib.hid hr7
                       rw [← HSJ.out] at hS7
                       have HS7 := Lib.hid hS7
                       clear ho hb hr6 hr7 hS6 hS7)
                    | (go_at_call 134; (refine (letter110_any _ j (by omega)).mono ?_); rintro e w8 ⟨rfl, rfl⟩)
                    | ((with_reducible refine wpList_sel 68 ?_); refine wpList_val rfl (r_app (.tmp 64) (.tmp 67) 25 rfl rfl rfl HR6.out) ?_)
                    | ((with_reducible refine wpList_sel 70 ?_); refine wpList_val rfl (r_app (.tmp 59) (.tmp 69) 31 rfl rfl rfl HR7.out) ?_))
                  go_roundw
                  case rel => exact ⟨j + 1, m + 1, by go_num, by omega, HM8, _, _, _, rfl, HS7⟩
                  case measure => simp [intOf]; omega
                )
              · have d5 : (x == (m : Int)) = false := by simpa using hx
                have HSJ := Lib.hid (HSJ1.out hx)
                rw [← HSJ.out] at HS HM
                clear hx
                go_wp2_with fail
                go_roundw
                case rel => exact ⟨j + 1, m, by go_num, by omega, HM, _, _, _, rfl, HS⟩
                case measure => simp [intOf]; omega
            · obtain rfl : j = (s.row k).length := by omega
              have he : foldTo (repRow s) (k + 1) [[]] = foldTo (repCol s k) ((s.row k).length) (foldTo (repRow s) k [[]]) := rfl
              rw [← he] at HS HM
              clear he
              go_wp2_with fail
              go_roundw
              case rel => exact ⟨k + 1, m, by go_num, by omega, HM, _, _, _, rfl, HS⟩
              case measure => simp [intOf]; omega
        · obtain rfl : k = s.length := by omega
          have HT2 := Lib.hid HST.out.tabB
          have HBW := Lib.hid HST.out.below
          go_wp2_with fail
          go_ret2
          exact ⟨⟨_, ret_of2 rfl (by rw [HZ.out]), by rw [HZ.out]; exact HT2.out⟩, HBW.out⟩
    · have HZ := Lib.hid (HE1.out (by rw [hs]; simpa using hst))
      rw [hs] at HE2
      have HSM' : Hid (∀ w' u, Tab w' u s → Below w.heap.size w w' → Calls Try.prog 133 #[u, .slice (some ⟨bt, ot, none⟩) t.length c] w' fun e w'' => e = .returned (.bool false) ∧ ∃ q, w'' = w'.drewN q) := Lib.hid fun w' u hu hb => by
        have := HSM.out w' u s hu hb
        rwa [decide_eq_false hst] at this
      clear hs hst HSM
      go_enter Try.func58, Try.ntmps58
      go_wp2_with (first
        | (go_at_call 51; (refine HC.out.mono ?_); rintro e w1 ⟨rfl, hb⟩; have HB1 := Lib.hid hb; clear hb)
        | (go_at_call 56; (refine (HST'.out _ HB1.out).mono ?_); rintro e w2 ⟨⟨u, rfl, HU⟩, hb⟩; have HB2 := Lib.hid (HB1.out.trans (hb.mono HB1.out.size)); clear hb)
        | (go_at_call 133; (refine (HSM'.out _ _ HU.out HB2.out).mono ?_); rintro e w3 ⟨rfl, q, rfl⟩))
      go_ret2
      exact ⟨⟨.slice none 0 0, ret_of2 rfl (by rw [HZ.out]), by rw [HZ.out]; exact TabB.nil⟩, below_drewN HB2.out q⟩
end Go.Proofs
namespace Go.Proofs
open Go.RowKit Go.Shelf Go.Proofs.Ct Go.Maps
/-- the system of a table, as it reads -/
structure SysAt (w : World) (vt vr : Value) (bm : Nat) (vl : Value) (t : Tb) (R : List (List Int)) (ps : List (Nat × Nat)) : Prop where
  tab : Tab w vt t
  reps : Tab w vr R
  map : MapP w bm ps
  list : ∃ base, OwnP base w vl ps
theorem SysAt.below {w w' : World} {vt vr : Value} {bm : Nat} {vl : Value} {t : Tb} {R : List (List Int)} {ps : List (Nat × Nat)} (h : SysAt w vt vr bm vl t R ps) (hb : Below w.heap.size w w') : SysAt w' vt vr bm vl t R ps :=
  ⟨kept_tab.below h.tab hb, kept_tab.below h.reps hb, h.map.below hb, let ⟨base, hl⟩ := h.list; ⟨base, owns_below hl hb⟩⟩
def zero95 : Array Value := #[.slice none 0 0, .slice none 0 0, .map none, .slice none 0 0]
theorem build95z (w : World) : (Instr.build 102 #[]).run Try.prog w = .ok (.agg zero95) w := by kernel_rfl
theorem alloc95 (w : World) : (Instr.alloc 102 true (.tuple #[])).run Try.prog w = .ok (.pointer (some ⟨w.heap.size, 0, none⟩)) (w.alloc (.cells zero95 102)) := by kernel_rfl
theorem info95s : (Try.prog.info? 102).map (·.size) = some 4 := by kernel_rfl
section
variable {o : Oper} {a : Act} {w w' : World} {n : Nat} {v : Value}
theorem r_store95 (x y : Operand) (ho : o.op = .store 102 x y) (g : Nat) (old c' : Array Value) (hx : a.eval x = .pointer (some ⟨g, 0, none⟩)) (hy : a.eval y = .agg c') (hg : w.heap[g]? = some (.cells old 102 (0, 0)))
    (hi : c'.size = 4) (hoo : old.size = 4) (h1 : c'.all (·.oneCell') = true) : (execOp a.eval o).run Try.prog w = .ok .skip (w.setRow g c') := by
  unfold execOp
  simp only [ho, hx, hy, Instr.storeAt, Instr.sureAddr, Sem.run_bind, Sem.run_pure, Result.andThen_ok, run_storeVar_row w g 102 102 old c' hg (by rw [hi]; exact info95s) (by rw [hi, hoo]) h1]
theorem r_build95 (ho : o.op = .build 102 #[]) : (execOp a.eval o).run Try.prog w = .ok (.value (.agg zero95)) w := by
  have hb := build95z w
  unfold execOp
  simp only [ho, List.map_toArray, List.map_nil, Sem.run_bind, hb, Result.andThen_ok]
  rfl
theorem r_alloc95 (ho : o.op = .alloc 102) : (execOp a.eval o).run Try.prog w = .ok (.value (.pointer (some ⟨w.heap.size, 0, none⟩))) (w.alloc (.cells zero95 102)) := by
  have hb := alloc95 w
  unfold execOp
  simp only [ho, Sem.run_bind, hb, Result.andThen_ok]
  rfl
theorem r_load95 (x : Operand) (b : Nat) (v0 v1 v2 v3 : Value) (ho : o.op = .load 102 x) (hx : a.eval x = .pointer (some ⟨b, 0, none⟩)) (hc : w.heap[b]? = some (.cells #[v0, v1, v2, v3] 102 (0, 0))) : (execOp a.eval o).run Try.prog w = .ok (.value (.agg #[v0, v1, v2, v3])) w := by
  have hr : w.rangeAt b 0 [v0, v1, v2, v3] := fun j v hj => by rw [cell_of_row _ _ _ _ _ _ hc, Nat.zero_add]; simpa using hj
  unfold execOp
  simp only [ho, hx, Sem.run_bind, run_loadAt_mid (P := Try.prog) w b 0 102 [v0, v1, v2, v3] _ hr Try.underlying102 rfl (by kernel_rfl), Result.andThen_ok]
  rfl
theorem r_move (x : Operand) (ho : o.op = .move x) (hx : a.eval x = v) : (execOp a.eval o).run Try.prog w = .ok (.value v) w := by
  unfold execOp
  simp only [ho, hx]
  rfl
end
theorem results_95_tmp {fn : Func} {p q : Tmp} (h : fn.results = #[.cell p 102, .tmp q]) (tmps : Array Value) (w : World) (g : Nat) (cs : Array Value) (u : Value)
    (hp : tmps.getD p undef = .pointer (some ⟨g, 0, none⟩)) (hq : tmps.getD q undef = u) (hg : w.heap[g]? = some (.cells cs 102 (0, 0))) (hs : cs.size = 4) :
    (results fn tmps).run Try.prog w = .ok (.tuple #[.agg cs, u]) w := by
  have hp' : tmps[p]?.getD undef = .pointer (some ⟨g, 0, none⟩) := by simpa using hp
  have hq' : tmps[q]?.getD undef = u := by simpa using hq
  simp [results, h, hp', hq', asAddr, run_loadVar_row w g 102 102 cs (0, 0) _ hg Try.underlying102 rfl (by rw [hs]; exact info95s)]
theorem zero95_one : zero95.all (·.oneCell') = true := by simp [zero95, Value.oneCell']
theorem repsE_good {g : Int} {t : Tb} (h : (repsE g t).2 = 0) : ∃ gn : Nat, g = gn ∧ TGood gn t ∧ std t 0 = some t ∧ repsE g t = (reps t, 0) := by
  unfold repsE at h ⊢
  by_cases h1 : (check g t).1 ≠ 0
  · rw [if_pos h1] at h
    exact absurd h h1
  · rw [if_neg h1] at h ⊢
    by_cases h2 : std t 0 = some t
    · rw [if_pos h2]
      obtain ⟨h3, h4, -⟩ := check_good (Decidable.not_not.1 h1)
      exact ⟨g.toNat, by omega, h4, h2, rfl⟩
    · rw [if_neg h2] at h
      exact absurd h (by simp)
theorem reps50_any (w : World) (v : Value) (g : Int) (t : Tb) (ht : Tab w v t) : Calls Try.prog 58 #[.int .i64 g, v] w (RepsPost g t w) := by
  by_cases h : (check g t).1 = 0
  · obtain ⟨h0, h1, -⟩ := check_good h
    have e : g = ((g.toNat : Nat) : Int) := by omega
    rw [e]
    exact reps50_good w v g.toNat t ht h1
  · exact reps50_bad w v g t ht h
set_option maxRecDepth 100000 in
set_option maxHeartbeats 1000000 in
theorem of68_bad (w : World) (v : Value) (g : Int) (t : Tb) (ht : Tab w v t) (he : (repsE g t).2 ≠ 0) :
    Calls Try.prog 92 #[.int .i64 g, v] w fun e w' => e = .returned (.tuple #[.agg zero95, .int .i64 (repsE g t).2]) ∧ Below w.heap.size w w' := by
  have hb0 : Below w.heap.size w (w.alloc (.cells zero95 102)) := (Below.refl _ _).alloc (Nat.le_refl _) _
  have HC := Lib.hid (reps50_any _ v g t (kept_tab.below ht hb0))
  have hg0 := heap_alloc_new w (.cells zero95 102)
  have hsz0 : w.heap.size < (w.alloc (.cells zero95 102)).heap.size := by simp
  have HG0 := Lib.hid hg0
  have HB0 := Lib.hid hb0
  have HS0 := Lib.hid hsz0
  have d1 : ((repsE g t).2 != 0) = true := by simpa using he
  obtain ⟨A, c, rfl, hc1, hc2, hc⟩ := ht.open_
  clear hc ht hb0 hg0 hsz0
  have HC' : Hid (Calls Try.prog 58 #[.int .i64 g, .slice A t.length c] (w.alloc (.cells zero95 102)) fun e w' => (∃ u, e = .returned (.tuple #[u, .int .i64 (repsE g t).2])) ∧ Below (w.alloc (.cells zero95 102)).heap.size (w.alloc (.cells zero95 102)) w') :=
    Lib.hid (HC.out.mono fun e w' ⟨⟨u, h1, _⟩, h2⟩ => ⟨⟨u, h1⟩, h2⟩)
  clear HC
  generalize (repsE g t).2 = x at *
  clear he
  go_enter Try.func92, Try.ntmps92
  go_wp2_with (first
    | ((with_reducible refine wpList_sel 4 ?_); refine wpList_val rfl (r_alloc95 rfl) ?_)
    | (go_at_call 58; (refine HC'.out.mono ?_); rintro e w1 ⟨⟨u, rfl⟩, hb⟩
       have HB1 := Lib.hid hb
       have HG1 : Hid (w1.heap[w.heap.size]? = some (.cells zero95 102 (0, 0))) := Lib.hid ((hb.block _ HS0.out).trans HG0.out)
       clear hb)
    | ((with_reducible refine wpList_sel 20 ?_); refine wpList_val rfl (r_build95 rfl) ?_; refine wpList_val rfl (r_move (.tmp 7) rfl rfl) ?_; refine wpList_skip rfl (r_store95 (.tmp 4) (.tmp 20) rfl w.heap.size zero95 zero95 rfl rfl HG1.out rfl rfl zero95_one) ?_))
  try simp only [Exit.inBlock, Exit.then]
  refine bodyPost_ret (results_95_tmp (p := 4) (q := 5) rfl _ _ w.heap.size zero95 (.int .i64 x) rfl rfl (setRow_heap _ _ _ _ _ _ HG1.out) rfl) rfl ⟨rfl, ?_⟩
  exact (HB0.out.trans (HB1.out.mono HB0.out.size)).trans ⟨rfl, rfl, rfl, by rw [World.setRow]; simp, fun k hk => setRow_other _ _ k _ (by omega)⟩
end Go.Proofs
namespace Go.Proofs
open Go.RowKit Go.Shelf Go.Proofs.Ct Go.Maps
theorem load89 {w : World} {b : Nat} {v0 v1 v2 v3 : Value} (hc : w.heap[b]? = some (.cells #[v0, v1, v2, v3] 102 (0, 0))) : (Instr.loadAt 96 (.pointer (some ⟨b, 0, none⟩))).run Try.prog w = .ok (.agg #[v0, v1]) w := by
  have hr : w.rangeAt b 0 [v0, v1] := fun j v hj => by
    rw [cell_of_row _ _ _ _ _ _ hc, Nat.zero_add]
    have hl : j < 2 := by have := (List.getElem?_eq_some_iff.1 hj).1; simpa using this
    have : j = 0 ∨ j = 1 := by omega
    rcases this with rfl | rfl <;> simpa using hj
  exact run_loadAt_mid (P := Try.prog) w b 0 96 [v0, v1] _ hr Try.underlying96 rfl (by kernel_rfl)
theorem load93 {w : World} {b : Nat} {v0 v1 v2 v3 : Value} (hc : w.heap[b]? = some (.cells #[v0, v1, v2, v3] 102 (0, 0))) : (Instr.loadAt 100 (.pointer (some ⟨b, 2, none⟩))).run Try.prog w = .ok (.agg #[v2, v3]) w := by
  have hr : w.rangeAt b 2 [v2, v3] := fun j v hj => by
    rw [cell_of_row _ _ _ _ _ _ hc]
    have hl : j < 2 := by have := (List.getElem?_eq_some_iff.1 hj).1; simpa using this
    have : j = 0 ∨ j = 1 := by omega
    rcases this with rfl | rfl <;> simpa using hj
  exact run_loadAt_mid (P := Try.prog) w b 2 100 [v2, v3] _ hr Try.underlying100 rfl (by kernel_rfl)
theorem one95 (A B C : Option Addr) (n m q a b d : Nat) (f : Option Nat) : (#[Value.slice A n a, .slice B m b, .map f, .slice C q d] : Array Value).all (·.oneCell') = true := by simp [Value.oneCell']
theorem box_cells {w : World} {b : Nat} {v0 v1 v2 v3 : Value} (hc : w.heap[b]? = some (.cells #[v0, v1, v2, v3] 102 (0, 0))) : w.cell? ⟨b, 0, none⟩ = some v0 ∧ w.cell? ⟨b, 1, none⟩ = some v1 ∧ w.cell? ⟨b, 2, none⟩ = some v2 ∧ w.cell? ⟨b, 3, none⟩ = some v3 :=
  ⟨by rw [cell_of_row _ _ _ _ _ _ hc]; rfl, by rw [cell_of_row _ _ _ _ _ _ hc]; rfl, by rw [cell_of_row _ _ _ _ _ _ hc]; rfl, by rw [cell_of_row _ _ _ _ _ _ hc]; rfl⟩
/-- the system in the making: box, map, list -/
structure OfSt (w1 wr : World) (vt u vl : Value) (ps : List (Nat × Nat)) : Prop where
  below : Below w1.heap.size w1 wr
  box : wr.heap[w1.heap.size + 1]? = some (.cells #[vt, u, .map (some w1.heap.size), vl] 102 (0, 0))
  map : MapP wr w1.heap.size ps
  list : OwnP (w1.heap.size + 2) wr vl ps
theorem OfSt.below' {w1 wr w' : World} {vt u vl : Value} {ps : List (Nat × Nat)} (h : OfSt w1 wr vt u vl ps) (hb : Below wr.heap.size wr w') : OfSt w1 w' vt u vl ps :=
  ⟨h.below.trans (hb.mono h.below.size), (hb.block _ (Array.getElem?_eq_some_iff.1 h.box).1).trans h.box, h.map.below hb, owns_below h.list hb⟩
theorem OfSt.add {w1 wr : World} {vt u vl : Value} {ps : List (Nat × Nat)} (h : OfSt w1 wr vt u vl ps) {k j : Nat} (hs : Sml k j) (hn : (k, j) ∉ ps) (hl : ps.length ≤ 400000) :
    ∃ A' c' w5 w6, (Builtin.append_ #[98, 98] 98 #[vl, .slice (some ⟨wr.heap.size, 0, none⟩) 1 1]).run Try.prog (wr.alloc (.cells #[.int .i64 (k : Int), .int .i64 ((j : Int) + 1)] 109)) = .ok (.slice A' (ps.length + 1) c') w5 ∧
      w5.cell? ⟨w1.heap.size + 1, 2, none⟩ = some (.map (some w1.heap.size)) ∧ w5.cell? ⟨w1.heap.size + 1, 3, none⟩ = some vl ∧ w5.frozen? ⟨w1.heap.size + 1, 3, none⟩ = false ∧
      (Instr.mapUpdate 97 (.map (some w1.heap.size)) (.agg #[.int .i64 (k : Int), .int .i64 ((j : Int) + 1)]) (.int .i64 ((ps.length : Int) + 1))).run Try.prog (w5.setCell ⟨w1.heap.size + 1, 3, none⟩ (.slice A' (ps.length + 1) c')) = .ok () w6 ∧
      OfSt w1 w6 vt u (.slice A' (ps.length + 1) c') (ps ++ [(k, j)]) := by
  have h1 := h.below.size
  have hbs : w1.heap.size + 1 < wr.heap.size := (Array.getElem?_eq_some_iff.1 h.box).1
  obtain ⟨A', c', w5, hr, ho, hg⟩ := push_pair wr (w1.heap.size + 2) vl ps h.list (k, j) (by omega) (by omega)
  have hvb := owns_block2 h.list
  have hne : ∀ r, r < w1.heap.size + 2 → vl.ownBlock ≠ some r := fun r hr e => by have := (hvb r e).1; omega
  have hbox5 : w5.heap[w1.heap.size + 1]? = some (.cells #[vt, u, .map (some w1.heap.size), vl] 102 (0, 0)) := grown_cells hg h.box (hne _ (by omega))
  have hmap5 : MapP w5 w1.heap.size ps := h.map.kept hg (hne _ (by omega))
  have hbel5 : Below w1.heap.size w1 w5 := h.below.grown hg h1 (fun k hk => by have := (hvb k hk).1; omega)
  have hg6 := grown_setCell w5 (w1.heap.size + 1) 3 (.slice A' (ps.length + 1) c')
  have hmap6 : MapP (w5.setCell ⟨w1.heap.size + 1, 3, none⟩ (.slice A' (ps.length + 1) c')) w1.heap.size ps := hmap5.kept hg6 (fun e => by have := Option.some.inj e; omega)
  have hbox6 : (w5.setCell ⟨w1.heap.size + 1, 3, none⟩ (.slice A' (ps.length + 1) c')).heap[w1.heap.size + 1]? = some (.cells #[vt, u, .map (some w1.heap.size), .slice A' (ps.length + 1) c'] 102 (0, 0)) := by
    simp [World.setCell, Array.getElem?_modify, hbox5]
  have hlist6 : OwnP (w1.heap.size + 2) (w5.setCell ⟨w1.heap.size + 1, 3, none⟩ (.slice A' (ps.length + 1) c')) (.slice A' (ps.length + 1) c') (ps ++ [(k, j)]) := owns_keep ho fun r hr' => by
    obtain ⟨h2, C, hC⟩ := owns_block2 ho r hr'
    exact hg6.block r (Array.getElem?_eq_some_iff.1 hC).1 (fun e => by have := Option.some.inj e; omega)
  have hbel6 : Below w1.heap.size w1 (w5.setCell ⟨w1.heap.size + 1, 3, none⟩ (.slice A' (ps.length + 1) c')) := hbel5.grown hg6 hbel5.size (fun k hk => by have := Option.some.inj hk; omega)
  obtain ⟨w6, hrm, hm7, hg7⟩ := hmap6.put hs (by omega) hn
  have hne7 : ∀ {k : Nat} {C : Array Value} {e : TypeId} {fr : Nat × Nat}, (w5.setCell ⟨w1.heap.size + 1, 3, none⟩ (.slice A' (ps.length + 1) c')).heap[k]? = some (.cells C e fr) → (some w1.heap.size : Option Nat) ≠ some k := fun {k C e fr} hc e' => by
    obtain ⟨es, cl, hmo⟩ := hmap6.isMapObj
    have : w1.heap.size = k := Option.some.inj e'
    subst this
    rw [hmo] at hc; cases hc
  refine ⟨A', c', w5, w6, hr, ?_, ?_, ?_, hrm, hbel6.grown hg7 hbel6.size (fun k hk => by cases hk; exact Nat.le_refl _), grown_cells hg7 hbox6 (hne7 hbox6), hm7, owns_keep hlist6 fun r hr' => ?_⟩
  · rw [cell_of_row _ _ _ _ _ _ hbox5]; rfl
  · rw [cell_of_row _ _ _ _ _ _ hbox5]; rfl
  · simp [World.frozen?, hbox5]
  · obtain ⟨-, C, hC⟩ := owns_block2 hlist6 r hr'
    exact (grown_cells hg7 hC (hne7 hC)).trans hC.symm
theorem OfSt.first (w1 : World) (vt u : Value) : OfSt w1 (((w1.alloc (.map #[] 0)).alloc (.cells zero95 102)).setRow (w1.heap.size + 1) #[vt, u, .map (some w1.heap.size), .slice none 0 0]) vt u (.slice none 0 0) [] := by
  have hb1 : Below w1.heap.size w1 (w1.alloc (.map #[] 0)) := (Below.refl _ _).alloc (Nat.le_refl _) _
  have hm1 := MapP.made w1
  have hb2 : Below (w1.heap.size + 1) (w1.alloc (.map #[] 0)) ((w1.alloc (.map #[] 0)).alloc (.cells zero95 102)) := (Below.refl _ _).alloc (by simp) _
  have hnew := heap_alloc_new (w1.alloc (.map #[] 0)) (.cells zero95 102)
  rw [World.size_alloc] at hnew
  have hb3 : Below (w1.heap.size + 1) ((w1.alloc (.map #[] 0)).alloc (.cells zero95 102)) (((w1.alloc (.map #[] 0)).alloc (.cells zero95 102)).setRow (w1.heap.size + 1) #[vt, u, .map (some w1.heap.size), .slice none 0 0]) :=
    ⟨rfl, rfl, rfl, by rw [World.setRow]; simp, fun k hk => setRow_other _ _ k _ (by omega)⟩
  refine ⟨(hb1.trans (hb2.mono (Nat.le_succ _))).trans (hb3.mono (Nat.le_succ _)), setRow_heap _ _ _ _ _ _ hnew, ?_, World.ownsRow_nil _ _ _ _⟩
  exact (hm1.below (hb2.mono (by simp))).kept (row := some (w1.heap.size + 1)) ⟨hb3.os, hb3.tape, hb3.output, hb3.size, fun k hk hne => setRow_other _ _ k _ (fun e => hne (by rw [e]))⟩ (fun e => by have := Option.some.inj e; omega)
/-- the letter j + 1 leads to dest -/
theorem dest_at {g : Nat} {t : Tb} (hg : TGood g t) (hs : Std t) {k j : Nat} (hk : k < t.length) (hj : j < g) : t.at k (2 * j) = (dest t k j : Int) ∧ dest t k j < t.length := by
  have h1 := hs.pos k hk (2 * j) (by rw [hg.len k hk]; omega)
  have h2 := (hg.bd k hk (2 * j) (by omega)).2
  unfold dest
  omega
set_option maxRecDepth 100000 in
set_option maxHeartbeats 2000000 in
theorem of68_good (w : World) (v : Value) (g : Nat) (t : Tb) (ht : Tab w v t) (hg : TGood g t) (hstd : std t 0 = some t) :
    Calls Try.prog 92 #[.int .i64 (g : Int), v] w fun e w' => (∃ vr bm vl, e = .returned (.tuple #[.agg #[v, vr, .map (some bm), vl], .int .i64 0]) ∧ SysAt w' v vr bm vl t (reps t) (pairs t (reps t) g)) ∧ Below w.heap.size w w' := by
  have hb0 : Below w.heap.size w (w.alloc (.cells zero95 102)) := (Below.refl _ _).alloc (Nat.le_refl _) _
  have hck := check_of_good hg
  have hre : repsE g t = (reps t, 0) := by unfold repsE; rw [hck, if_neg (by simp), if_pos hstd]
  have HC : Hid (Calls Try.prog 58 #[.int .i64 (g : Int), v] (w.alloc (.cells zero95 102)) fun e w' => (∃ u, e = .returned (.tuple #[u, .int .i64 0]) ∧ Hid (TabB (w.alloc (.cells zero95 102)).heap.size w' u (reps t))) ∧ Below (w.alloc (.cells zero95 102)).heap.size (w.alloc (.cells zero95 102)) w') :=
    Lib.hid ((reps50_good _ v g t (kept_tab.below ht hb0) hg).mono fun e w' ⟨⟨u, h1, h2⟩, h3⟩ => by
      rw [hre] at h1 h2
      exact ⟨⟨u, h1, Lib.hid h2⟩, h3⟩)
  have hg0 := heap_alloc_new w (.cells zero95 102)
  have hsz0 : (w.alloc (.cells zero95 102)).heap.size = w.heap.size + 1 := by simp
  have HG0 := Lib.hid hg0
  have HB0 := Lib.hid hb0
  have HS0 := Lib.hid hsz0
  have HSTD := Lib.hid (std_iff hstd)
  have HTAB := Lib.hid ht
  have HG := Lib.hid hg
  have HRL := Lib.hid (reps_length hg (std_iff hstd))
  have hg16 := hg.g16
  have hn2 := hg.n2
  have hg0' : (0 : Int) ≤ (g : Int) := Int.natCast_nonneg _
  have hg16' : (g : Int) ≤ 16 := by omega
  have hn0 : (0 : Int) ≤ (t.length : Int) := Int.natCast_nonneg _
  obtain ⟨A, c, rfl, hc1, hc2, hc⟩ := ht.open_
  clear hc ht hb0 hg0 hsz0 hck hre hstd hg
  generalize reps t = R at *
  have hmm : ∀ w, (Instr.makeMap 97 none).run Try.prog w = .ok (.map (some w.heap.size)) (w.alloc (.map #[] 0)) := fun _ => rfl
  go_enter Try.func92, Try.ntmps92
  go_wp2_with (first
    | ((with_reducible refine wpList_sel 4 ?_); refine wpList_val rfl (r_alloc95 rfl) ?_)
    | (go_at_call 58; (refine HC.out.mono ?_); rintro e w1 ⟨⟨u, rfl, HU⟩, hb⟩
       have HB1 := Lib.hid hb
       have HG1 : Hid (w1.heap[w.heap.size]? = some (.cells zero95 102 (0, 0))) := Lib.hid ((hb.block _ (by rw [HS0.out]; omega)).trans HG0.out)
       have HN1 := Lib.hid (heap_alloc_new (w1.alloc (.map #[] 0)) (.cells zero95 102))
       have HOF := Lib.hid (OfSt.first w1 (.slice A t.length c) u)
       obtain ⟨Au, cu, rfl, hu1, hu2, hu3⟩ := HU.out.at_.open_
       clear hb hu3)
    | ((with_reducible refine wpList_sel 8 ?_); refine wpList_val rfl (r_alloc95 rfl) ?_; refine wpList_skip rfl (r_store95 (.tmp 8) (.tmp 27) rfl (w1.heap.size + 1) zero95 #[.slice A t.length c, .slice Au R.length cu, .map (some w1.heap.size), .slice none 0 0] (by rw [World.size_alloc]; rfl) rfl (by have := HN1.out; rw [World.size_alloc] at this; exact this) rfl rfl (one95 _ _ _ _ _ _ _ _ _ _)) ?_))
  have hW : Below w.heap.size w w1 := HB0.out.trans (HB1.out.mono HB0.out.size)
  have hw1 : w.heap.size < w1.heap.size := (Array.getElem?_eq_some_iff.1 HG1.out).1
  have HW := Lib.hid hW
  clear hW
  go_loopw [30] (fun i wr => ∃ k : Nat, i = .int .i64 k ∧ k ≤ t.length ∧ Hid (∃ vl, OfSt w1 wr (.slice A t.length c) (.slice Au R.length cu) vl (pairTo t R g k))) (fun i _ => t.length - (intOf i).toNat)
  case atStart => exact ⟨0, rfl, by omega, Lib.hid ⟨_, HOF.out⟩⟩
  case round =>
    clear HOF
    obtain ⟨k, rfl, hk, HS⟩ := hrel
    have hk0 : (0 : Int) ≤ (k : Int) := Int.natCast_nonneg _
    by_cases hlt : k < t.length
    · have hlt' : (k : Int) < (t.length : Int) := by omega
      go_wp2_with fail
      go_loopw [10] (fun i wr => ∃ j : Nat, i = .int .i64 ((j : Int) + 1) ∧ j ≤ g ∧ Hid (∃ vl, OfSt w1 wr (.slice A t.length c) (.slice Au R.length cu) vl (pairRow t R k j (pairTo t R g k)))) (fun i _ => g + 1 - (intOf i).toNat)
      case atStart => exact ⟨0, rfl, by omega, Lib.hid HS.out⟩
      case round =>
        clear HS
        obtain ⟨j, rfl, hj, HS⟩ := hrel
        have hj0 : (0 : Int) ≤ (j : Int) := Int.natCast_nonneg _
        by_cases hjl : j < g
        · have hjl3 : (j : Int) + 1 ≤ (g : Int) := by omega
          obtain ⟨vl, hS⟩ := HS.out
          obtain ⟨Al, cl, e9⟩ := owns_form2 hS.list
          subst e9
          have HSX := Lib.hid hS
          obtain ⟨hda, hdl⟩ := dest_at HG.out HSTD.out hlt hjl
          obtain ⟨p0, p1, p2, p3⟩ := box_cells hS.box
          have hkR : k < R.length := by rw [HRL.out.1]; exact hlt
          have hdR : dest t k j < R.length := by rw [HRL.out.1]; exact hdl
          have hwl : ∀ i, (R.getD i []).length ≤ 100000 := fun i => by
            rcases Nat.lt_or_ge i t.length with hi | hi
            · have := HRL.out.2 i hi; omega
            · rw [List.getD_eq_getElem?_getD, List.getElem?_eq_none (by rw [HRL.out.1]; exact hi)]; simp
          have HSTP : Hid (∀ W, Below w1.heap.size w1 W → Calls Try.prog 94 #[.agg #[.slice A t.length c, .slice Au R.length cu], .int .i64 (k : Int), .int .i64 ((j : Int) + 1)] W fun e w' => e = .returned (.int .i64 (dest t k j : Int)) ∧ Below W.heap.size W w') := Lib.hid fun W hW => by
            have := step70_any W (.slice A t.length c) Au R.length cu t k ((j : Int) + 1) (2 * j) (kept_tab.below HTAB.out (HW.out.trans (hW.mono HW.out.size))) hlt (by rw [HG.out.len k hlt]; omega) (.inl ⟨by omega, by omega⟩) ⟨by omega, by omega⟩
            rw [hda] at this
            exact this
          have HGR : Hid (∀ (W : World) (A9 : Option Addr) (n9 c9 : Nat) (r to : Nat) (x : Int), Below w1.heap.size w1 W → r < R.length → to < R.length → (-1000 ≤ x ∧ x ≤ 1000) → Calls Try.prog 160 #[.agg #[.slice A t.length c, .slice Au R.length cu, .map (some w1.heap.size), .slice A9 n9 c9], .int .i64 (r : Int), .int .i64 x, .int .i64 (to : Int)] W fun e w' => e = .returned (.bool (decide (R.getD to [] = R.getD r [] ++ [x]))) ∧ Below W.heap.size W w') := Lib.hid fun W A9 n9 c9 r to x hW h1 h2 h3 =>
            grows114_any W (.slice Au R.length cu) A A9 t.length c n9 c9 w1.heap.size R r to x (kept_tab.below HU.out.at_ hW) h1 h2 hwl h3
          have HNT : Hid (nt t R k j = (!(decide (R.getD (dest t k j) [] = R.getD k [] ++ [(j : Int) + 1])) && !(decide (R.getD k [] = R.getD (dest t k j) [] ++ [-((j : Int) + 1)])))) := Lib.hid rfl
          have hpn := pair_new t R g k j
          have hpl : (pairRow t R k j (pairTo t R g k)).length ≤ 100000 → True := fun _ => trivial
          have hpl2 : (pairRow t R k j (pairTo t R g k)).length ≤ 400000 := by
            have h1 := (pairRow_length t R k j (pairTo t R g k)).2
            have h2 := pairTo_length t R g k
            have h3 : k * g ≤ 20000 * 16 := Nat.mul_le_mul (by omega) hg16
            omega
          have HROW : Hid (pairRow t R k (j + 1) (pairTo t R g k) = if nt t R k j then pairRow t R k j (pairTo t R g k) ++ [(k, j)] else pairRow t R k j (pairTo t R g k)) := Lib.hid rfl
          clear hS hda hwl hpl HS
          generalize pairRow t R k j (pairTo t R g k) = ps at *
          by_cases hb1 : R.getD (dest t k j) [] = R.getD k [] ++ [(j : Int) + 1]
          · have HR2 : Hid (pairRow t R k (j + 1) (pairTo t R g k) = ps) := Lib.hid (by rw [HROW.out, HNT.out, decide_eq_true hb1]; rfl)
            have HB9 := Lib.hid (decide_eq_true hb1)
            clear hb1 hpn
            go_wp2_with (first
              | (go_at_call 94; (refine (HSTP.out _ HSX.out.below).mono ?_); rintro e w2 ⟨rfl, hb⟩
                 have HS2 := Lib.hid (HSX.out.below' hb)
                 obtain ⟨q0, q1, q2, q3⟩ := box_cells HS2.out.box
                 clear hb)
              | (go_at_call 160; (refine (HGR.out _ _ _ _ _ _ _ HS2.out.below hkR hdR ⟨by omega, by omega⟩).mono ?_); rintro e w3 ⟨rfl, hb⟩
                 have HS3 := Lib.hid (HS2.out.below' hb)
                 rw [HB9.out]
                 clear hb))
            go_roundw
            case rel => exact ⟨j + 1, by go_num, by omega, Lib.hid ⟨_, by rw [HR2.out]; exact HS3.out⟩⟩
            case measure => simp [intOf]; omega
          · have HB9 := Lib.hid (decide_eq_false hb1)
            by_cases hb2 : R.getD k [] = R.getD (dest t k j) [] ++ [-((j : Int) + 1)]
            · have HR2 : Hid (pairRow t R k (j + 1) (pairTo t R g k) = ps) := Lib.hid (by rw [HROW.out, HNT.out, decide_eq_false hb1, decide_eq_true hb2]; rfl)
              have HB8 := Lib.hid (decide_eq_true hb2)
              clear hb1 hb2 hpn
              go_wp2_with (first
                | (go_at_call 94; (refine (HSTP.out _ HSX.out.below).mono ?_); rintro e w2 ⟨rfl, hb⟩
                   have HS2 := Lib.hid (HSX.out.below' hb)
                   obtain ⟨q0, q1, q2, q3⟩ := box_cells HS2.out.box
                   have tok0 : True := trivial
                   clear hb)
                | (go_at_call 160
                   have _t := tok0
                   (refine (HGR.out _ _ _ _ _ _ _ HS2.out.below hkR hdR ⟨by omega, by omega⟩).mono ?_); rintro e w3 ⟨rfl, hb⟩
                   have HS3 := Lib.hid (HS2.out.below' hb)
                   obtain ⟨s0, s1, s2, s3⟩ := box_cells HS3.out.box
                   rw [HB9.out]
                   clear hb tok0)
                | (go_at_call 160; (refine (HGR.out _ _ _ _ _ _ _ HS3.out.below hdR hkR ⟨by omega, by omega⟩).mono ?_); rintro e w4 ⟨rfl, hb⟩
                   have HS4 := Lib.hid (HS3.out.below' hb)
                   rw [HB8.out]
                   clear hb))
              go_roundw
              case rel => exact ⟨j + 1, by go_num, by omega, Lib.hid ⟨_, by rw [HR2.out]; exact HS4.out⟩⟩
              case measure => simp [intOf]; omega
            · have HR2 : Hid (pairRow t R k (j + 1) (pairTo t R g k) = ps ++ [(k, j)]) := Lib.hid (by rw [HROW.out, HNT.out, decide_eq_false hb1, decide_eq_false hb2]; rfl)
              have HB8 := Lib.hid (decide_eq_false hb2)
              have HPN := Lib.hid hpn
              clear hb1 hb2 hpn
              go_wp2_with (first
                | (go_at_call 94; (refine (HSTP.out _ HSX.out.below).mono ?_); rintro e w2 ⟨rfl, hb⟩
                   have HS2 := Lib.hid (HSX.out.below' hb)
                   obtain ⟨q0, q1, q2, q3⟩ := box_cells HS2.out.box
                   have tok0 : True := trivial
                   clear hb)
                | (go_at_call 160
                   have _t := tok0
                   (refine (HGR.out _ _ _ _ _ _ _ HS2.out.below hkR hdR ⟨by omega, by omega⟩).mono ?_); rintro e w3 ⟨rfl, hb⟩
                   have HS3 := Lib.hid (HS2.out.below' hb)
                   obtain ⟨s0, s1, s2, s3⟩ := box_cells HS3.out.box
                   rw [HB9.out]
                   clear hb tok0)
                | (go_at_call 160; (refine (HGR.out _ _ _ _ _ _ _ HS3.out.below hdR hkR ⟨by omega, by omega⟩).mono ?_); rintro e w4 ⟨rfl, hb⟩
                   have HS4 := Lib.hid (HS3.out.below' hb)
                   rw [HB8.out]
                   obtain ⟨A', c', w5, w6, hra, z2, z3, zf, hrm, hS6⟩ := HS4.out.add (k := k) (j := j) ⟨by omega, by omega⟩ HPN.out (by omega)
                   obtain ⟨r0, r1, r2, r3⟩ := box_cells HS4.out.box
                   have HRA := Lib.hid hra
                   have HRM := Lib.hid hrm
                   have HS6 := Lib.hid hS6
                   clear hra hrm hS6
                   clear hb)
                | ((with_reducible refine wpList_sel 65 ?_); refine wpList_val rfl (r_app (.tmp 60) (.tmp 64) 98 rfl rfl rfl HRA.out) ?_)
                | ((with_reducible refine wpList_selMu 97 70 73 77 ?_); refine wpList_skip rfl (r_mu 97 (.tmp 70) (.tmp 73) (.tmp 77) rfl rfl rfl rfl HRM.out) ?_))
              go_roundw
              case rel => exact ⟨j + 1, by go_num, by omega, Lib.hid ⟨_, by rw [HR2.out]; exact HS6.out⟩⟩
              case measure => simp [intOf]; omega
        · obtain rfl : j = g := by omega
          have HK2 : Hid (pairTo t R j (k + 1) = pairRow t R k j (pairTo t R j k)) := Lib.hid rfl
          rw [← HK2.out] at HS
          go_wp2_with fail
          go_roundw
          case rel => exact ⟨k + 1, by go_num, by omega, HS⟩
          case measure => simp [intOf]; omega
    · obtain rfl : k = t.length := by omega
      rename World => wz
      obtain ⟨vl, hS⟩ := HS.out
      obtain ⟨p0, p1, p2, p3⟩ := box_cells hS.box
      have hG1 := (hS.below.block w.heap.size hw1).trans HG1.out
      have HGZ := Lib.hid hG1
      have HSX := Lib.hid hS
      obtain ⟨Al, cl, e9⟩ := owns_form2 hS.list
      subst e9
      clear hG1 hS HS
      go_wp2_with ((with_reducible refine wpList_sel 79 ?_); refine wpList_val rfl (r_load95 (.tmp 8) (w1.heap.size + 1) _ _ _ _ rfl rfl HSX.out.box) ?_; refine wpList_skip rfl (r_store95 (.tmp 4) (.tmp 79) rfl w.heap.size zero95 _ rfl rfl HGZ.out rfl rfl (one95 _ _ _ _ _ _ _ _ _ _)) ?_)
      try simp only [Exit.inBlock, Exit.then]
      refine bodyPost_ret (results_95_tmp (p := 4) (q := 5) rfl _ _ w.heap.size _ (.int .i64 0) rfl rfl (setRow_heap _ _ _ _ _ _ HGZ.out) rfl) rfl ⟨⟨_, _, _, rfl, ?_⟩, ?_⟩
      · have hne : ∀ k, k ≠ w.heap.size → (wz.setRow w.heap.size #[.slice A t.length c, .slice Au R.length cu, .map (some w1.heap.size), .slice Al (pairTo t R g t.length).length cl]).heap[k]? = wz.heap[k]? := fun k hk => setRow_other _ _ k _ hk
        have hgr : wz.grownBy (wz.setRow w.heap.size #[.slice A t.length c, .slice Au R.length cu, .map (some w1.heap.size), .slice Al (pairTo t R g t.length).length cl]) (some w.heap.size) := ⟨rfl, rfl, rfl, by rw [World.setRow]; simp, fun k _ hk => hne k (fun e => hk (by rw [e]))⟩
        refine ⟨?_, ?_, HSX.out.map.kept hgr (fun e => by have := Option.some.inj e; omega), w1.heap.size + 2, owns_keep HSX.out.list fun r hr => hne r (by have := (owns_block2 HSX.out.list r hr).1; omega)⟩
        · exact kept_tab _ _ _ _ (fun k hk => (hne k (by omega)).trans ((HSX.out.below.block k (by omega)).trans (HW.out.block k hk))) HTAB.out
        · exact HU.out _ fun k h1 h2 => (hne k (by have := HS0.out; omega)).trans (HSX.out.below.block k h2)
      · exact (HW.out.trans (HSX.out.below.mono HW.out.size)).trans ⟨rfl, rfl, rfl, by rw [World.setRow]; simp, fun k hk => setRow_other _ _ k _ (by omega)⟩
end Go.Proofs
namespace Go.Proofs
open Go.RowKit Go.Shelf Go.Proofs.Ct Go.Maps
theorem OwnP.form {base : Nat} {w : World} {v : Value} {ps : List (Nat × Nat)} (h : OwnP base w v ps) : ∃ A c, v = .slice A ps.length c := owns_form2 h
theorem Tab.form {w : World} {v : Value} {xs : List (List Int)} (h : Tab w v xs) : ∃ A c, v = .slice A xs.length c := let ⟨A, c, e, _⟩ := h.open_; ⟨A, c, e⟩
theorem below_boxed {w w1 : World} (hb : Below w.heap.size w w1) (o : Obj) (cs : Array Value) : Below w.heap.size w ((w1.alloc o).setRow w1.heap.size cs) := by
  have h1 := hb.size
  have h2 : Below w.heap.size w (w1.alloc o) := hb.alloc h1 _
  exact h2.trans ⟨rfl, rfl, rfl, by rw [World.setRow]; simp, fun k hk => setRow_other _ _ k _ (by omega)⟩
end Go.Proofs
namespace Go.Proofs
open Go.RowKit Go.Shelf Go.Proofs.Ct Go.Maps
section
variable {ops : Array Oper} {o : Oper} {a : Act} {w w' : World} {K : Act → World → Prop} {Q : Exit → Act → World → Prop} {E : Prop} {v : Value}
end
theorem OutSt2.done' {t e : TypeId} (he : e ≠ 3) (ht : Try.prog.underlying t = some (.slice e)) (hi : ∃ i, Try.prog.info? e = some i ∧ i.zero = some (.slice none 0 0) ∧ i.size = 1 ∧ i.bytes = 24) {F : Nat → Prop} {w0 wr : World} {vout : Value} {A : Option Addr} {n c : Nat} {rows : List (List Int)} {x : List Int} (h : OutSt2 e F w0 wr vout (.slice A n c) rows x) (hf : Fits x) (hl : rows.length ≤ 1000000) :
    ∃ A' c' w', (Builtin.append_ #[t, t] t #[vout, .slice (some ⟨wr.heap.size, 0, none⟩) 1 1]).run Try.prog (wr.alloc (.cells #[.slice A n c] e)) = .ok (.slice A' (rows.length + 1) c') w' ∧
      OutSt e (fun k => F k ∨ (Value.slice A n c).ownBlock = some k) w0 w' (.slice A' (rows.length + 1) c') (rows ++ [x]) ∧ wr.grownBy w' vout.ownBlock := by
  have hub := h.st.out.block
  have hrb := owns_block h.row
  have hne : ∀ {k : Nat} {C : Array Value} {fr : Nat × Nat}, wr.heap[k]? = some (.cells C 3 fr) → vout.ownBlock ≠ some k := fun {k C fr} hc e' => by
    obtain ⟨-, C', hC'⟩ := hub k e'
    rw [hc] at hC'
    injection hC' with h5
    injection h5 with _ h6 _
    exact he h6.symm
  have hF2 : ∀ k, (F k ∨ (Value.slice A n c).ownBlock = some k) → k < wr.heap.size ∧ vout.ownBlock ≠ some k := fun k hk => by
    rcases hk with hk | hk
    · obtain ⟨h1, h2, C, hC⟩ := h.st.fs k hk
      exact ⟨h2, hne hC⟩
    · obtain ⟨h1, C, hC⟩ := hrb k hk
      exact ⟨(Array.getElem?_eq_some_iff.1 hC).1, hne hC⟩
  obtain ⟨A', c', w', hr, ho', hg, hw⟩ := push_row (ty := t) ht hi wr w0.heap.size (fun k => F k ∨ (Value.slice A n c).ownBlock = some k) vout rows (h.st.out.keep (fun _ _ => rfl) (Ag.refl _ _) (fun k hk => .inl hk)) A n c x ((IntsF.of_own h.row hf).mono fun k hk => .inr hk) hF2 (by omega) h.st.below.size
  refine ⟨A', c', w', hr, ⟨h.st.below.grown hg h.st.below.size (fun k hk => (hub k hk).1), ho', fun k hk => ?_⟩, hg⟩
  have h2 := (hF2 k hk).1
  rcases hk with hk | hk
  · obtain ⟨h1, _, C, hC⟩ := h.st.fs k hk
    exact ⟨h1, Nat.lt_of_lt_of_le h2 hg.size, C, grown_cells hg hC (hne hC)⟩
  · obtain ⟨h1, C, hC⟩ := hrb k hk
    exact ⟨h1, Nat.lt_of_lt_of_le h2 hg.size, C, grown_cells hg hC (hne hC)⟩
end Go.Proofs
