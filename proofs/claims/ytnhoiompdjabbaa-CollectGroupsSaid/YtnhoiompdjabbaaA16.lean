/- The law's own: a copy of a presentation; The law's vast and heavy end, with some answer; The contract of the law's awake. -/
import Derived.Test.YtnhoiompdjabbaaA15
import Derived.Test.YtnhoiompdjabbaaA12
import Derived.Test.YtnhoiompdjabbaaA2
import Derived.Test.YtnhoiompdjabbaaA9
import Derived.Test.YtnhoiompdjabbaaA7
import Derived.Test.YtnhoiompdjabbaaA6
namespace Go.Proofs
open Go.RowKit Go.Proofs.Pc
attribute [local simp, local go_sem] wide_fn wide_depth

set_option maxRecDepth 100000 in
set_option maxHeartbeats 1000000 in
theorem own22_in (w : World) (v0 v1 v2 : Value) (P : PcD) (hP : PcAt w v0 v1 v2 P) (h0 : P.orders.length ≤ 1000) (h1 : P.powers.length ≤ 1000) (h1s : ∀ k, k < P.powers.length → (P.powers.getD k []).length ≤ 1000)
    (h2 : P.conj.length ≤ 1000) (h2s : ∀ k, k < P.conj.length → (P.conj.getD k []).length ≤ 1000) (h3s : ∀ k, k < P.conj.length → ∀ i, i < (P.conj.getD k []).length → ((P.conj.getD k []).getD i []).length ≤ 1000) :
    CallsIn Fence.wide 3 Try.prog 22 #[.agg #[v0, v1, v2]] w fun e w' => (∃ u0 u1 u2, e = .returned (.agg #[u0, u1, u2]) ∧ PcAt w' u0 u1 u2 P) ∧ Below w.heap.size w w' := by
  obtain ⟨⟨A0, c0, rfl⟩, ⟨A1, c1, rfl⟩, A2, c2, rfl⟩ := pc_slices hP
  have HP := Lib.hid hP
  have H1S := Lib.hid h1s
  have H2S := Lib.hid h2s
  have H3S := Lib.hid h3s
  have hb : Below w.heap.size w (((w.alloc (.cells #[.slice A0 P.orders.length c0, .slice A1 P.powers.length c1, .slice A2 P.conj.length c2] 26)).alloc (.cells #[.slice none 0 0, .slice none 0 0, .slice none 0 0] 26)).alloc (.cells #[] 3)) := allocs_below [.cells #[.slice A0 P.orders.length c0, .slice A1 P.powers.length c1, .slice A2 P.conj.length c2] 26, .cells #[.slice none 0 0, .slice none 0 0, .slice none 0 0] 26, .cells #[] 3] w _ (Nat.le_refl _)
  have hga := allocs_get [.cells #[.slice A0 P.orders.length c0, .slice A1 P.powers.length c1, .slice A2 P.conj.length c2] 26, .cells #[.slice none 0 0, .slice none 0 0, .slice none 0 0] 26, .cells #[] 3] w
  have hg0 : (((w.alloc (.cells #[.slice A0 P.orders.length c0, .slice A1 P.powers.length c1, .slice A2 P.conj.length c2] 26)).alloc (.cells #[.slice none 0 0, .slice none 0 0, .slice none 0 0] 26)).alloc (.cells #[] 3)).heap[w.heap.size]? = some (.cells #[.slice A0 P.orders.length c0, .slice A1 P.powers.length c1, .slice A2 P.conj.length c2] 26 (0, 0)) := hga 0 _ rfl
  have hg1 : (((w.alloc (.cells #[.slice A0 P.orders.length c0, .slice A1 P.powers.length c1, .slice A2 P.conj.length c2] 26)).alloc (.cells #[.slice none 0 0, .slice none 0 0, .slice none 0 0] 26)).alloc (.cells #[] 3)).heap[w.heap.size + 1]? = some (.cells #[.slice none 0 0, .slice none 0 0, .slice none 0 0] 26 (0, 0)) := hga 1 _ rfl
  have hg2 : (((w.alloc (.cells #[.slice A0 P.orders.length c0, .slice A1 P.powers.length c1, .slice A2 P.conj.length c2] 26)).alloc (.cells #[.slice none 0 0, .slice none 0 0, .slice none 0 0] 26)).alloc (.cells #[] 3)).heap[w.heap.size + 2]? = some (.cells #[] 3 (0, 0)) := hga 2 _ rfl
  have hs3 : (((w.alloc (.cells #[.slice A0 P.orders.length c0, .slice A1 P.powers.length c1, .slice A2 P.conj.length c2] 26)).alloc (.cells #[.slice none 0 0, .slice none 0 0, .slice none 0 0] 26)).alloc (.cells #[] 3)).heap.size = w.heap.size + 3 := by simp
  obtain ⟨b', cap, w4, hr, hb4, hx4⟩ := copy_x hg2 (hP.1.below hb) h0
  have HR := Lib.hid hr
  have HX := Lib.hid hx4
  have HB4 := Lib.hid (hb.trans (hb4.mono (by omega)))
  have HG0 := Lib.hid ((hb4.block _ (by omega)).trans hg0)
  have HG1 := Lib.hid ((hb4.block _ (by omega)).trans hg1)
  have hs4 := hb4.size
  clear hr hb4 hx4 hb hga hg0 hg1 hg2 hP h1s h2s h3s
  gi_enter Try.func22, Try.ntmps22
  gi_wp2_with ((with_reducible refine wpListIn_sel 11 ?_); refine wpListIn_val rfl (r_app (.tmp 8) (.tmp 10) 22 rfl rfl rfl HR.out) ?_)
  have hq0 : w.heap.size + 1 < w4.heap.size := by omega
  have hS0 : OwS w P (.slice A0 P.orders.length c0) (.slice A1 P.powers.length c1) (.slice A2 P.conj.length c2) w4.heap.size (.slice (some ⟨b', 0, none⟩) P.orders.length cap) (.slice none 0 0) (.slice none 0 0) (w4.alloc (.cells #[.slice (some ⟨b', 0, none⟩) P.orders.length cap, .slice none 0 0, .slice none 0 0] 26)) := by
    have hb5 : Below w4.heap.size w4 (w4.alloc (.cells #[.slice (some ⟨b', 0, none⟩) P.orders.length cap, .slice none 0 0, .slice none 0 0] 26)) := (Below.refl _ _).alloc (Nat.le_refl _) _
    exact ⟨HB4.out.trans (hb5.mono (by omega)), (hb5.block _ (by omega)).trans HG0.out, (hb5.block _ (by omega)).trans HG1.out, heap_alloc_new w4 _, HX.out.keep hb5.size (AgX.of_below hb5)⟩
  generalize w4.alloc (.cells #[.slice (some ⟨b', 0, none⟩) P.orders.length cap, .slice none 0 0, .slice none 0 0] 26) = W at *
  generalize w4.heap.size = q at *
  generalize hu0 : Value.slice (some ⟨b', 0, none⟩) P.orders.length cap = u0 at *
  have HU0 : Hid (u0.oneCell' = true) := Lib.hid (by rw [← hu0]; rfl)
  have HS0 := Lib.hid hS0
  clear hS0 HX HB4 HG0 HG1 HR hs4 hs3 hu0
  gi_loopw [4] (fun s wr => ∃ k : Nat, k ≤ P.powers.length ∧ s = .int .i64 k ∧ ∃ s1, OwS w P (.slice A0 P.orders.length c0) (.slice A1 P.powers.length c1) (.slice A2 P.conj.length c2) q u0 s1 (.slice none 0 0) wr ∧ RowOf w.heap.size wr.heap.size 22 [3] IntsAt [] wr s1 (P.powers.take k)) (fun s _ => P.powers.length - (intOf s).toNat)
  case atStart => exact ⟨0, Nat.zero_le _, by go_num, _, HS0.out, by rw [List.take_zero]; exact RowOf.nil _ _ _ _ _ _ _⟩
  case round =>
    obtain ⟨k, hk, rfl, s1, hS, hR⟩ := hrel
    obtain ⟨As, cs, rfl⟩ := hR.form
    have hlt0 : (P.powers.take k).length = k := by rw [List.length_take]; omega
    rw [hlt0] at hS hR
    have hcb : wr.cell? ⟨w.heap.size, 1, none⟩ = some (.slice A1 P.powers.length c1) := (cell_of_row _ _ 1 _ _ _ hS.box).trans rfl
    have HS := Lib.hid hS
    have HRO := Lib.hid hR
    have HLT := Lib.hid hlt0
    by_cases hlt : k < P.powers.length
    · have hk0 : (0 : Int) ≤ (k : Int) := Int.natCast_nonneg _
      have hk1 : (k : Int) < (P.powers.length : Int) := by omega
      obtain ⟨b1, o1, Ar, cr, rfl, hcr, hIr⟩ := pow_cell' HP.out hlt
      have hlx := H1S.out k hlt
      have HIR := Lib.hid hIr
      have HCR := Lib.hid hcr
      clear hS hR hlt0 hcr hIr
      gi_wp2_with fail
      have hS := HS.out
      have hR := HRO.out
      have hlt0 := HLT.out
      have hcr := HCR.out
      have hrow := hR.row
      have hrlt : ∀ r, (Value.slice As k cs).ownBlock = some r → r < wr.heap.size := fun r hr => (hrow r hr).2.1
      refine wpIn_region_ls (by kernel_rfl) dmO 12 (tailed1_of (by kernel_rfl)) (fun ls w' => wr.grownBy w' (Value.slice As k cs).ownBlock ∧ (ls 10 = false → Below wr.heap.size wr w')) (phO w.heap.size q (.slice (some ⟨b1, o1, none⟩) P.powers.length c1) (.slice As k cs) (.slice Ar (P.pow k).length cr) b1 o1 k (P.powers.take (k + 1)) (P.pow k) wr.heap.size) (gO (.slice As k cs)) (inj_of (by decide)) (fun i j v w w' hi hj hij h => phO_keep hrlt hij h) (lt_of (n := 69) (by decide)) ⟨only_of_below (Below.refl _ _).drew _, fun _ => (Below.refl _ _).drew⟩ ?_ ?_
      · intro ls g o a w2 hq ho hSl hls hsame hpre
        obtain ⟨hS1, hS2⟩ := hSl
        have hO2 := hS.grown hS1 (fun r hr => ⟨(hrow r hr).1, (hrow r hr).2.2⟩) (by decide) (by decide)
        have ht1 : a.eval (.tmp 1) = .pointer (some ⟨w.heap.size, 0, none⟩) := hsame.out 1 (by decide)
        have ht3 : a.eval (.tmp 3) = .pointer (some ⟨q, 0, none⟩) := hsame.out 3 (by decide)
        have ht4 : a.eval (.tmp 4) = .int .i64 k := hsame.out 4 (by decide)
        have hgb : ∀ {i : Nat} {w' : World}, i ≠ 10 → Below w2.heap.size w2 w' → gO (.slice As k cs) i w2 w' := fun hi h => by unfold gO; rw [if_neg hi]; exact h
        have hSn : ∀ {i : Nat} {w' : World}, i ≠ 10 → Below w2.heap.size w2 w' → wr.grownBy w' (Value.slice As k cs).ownBlock ∧ ((if i = 10 then true else ls 10) = false → Below wr.heap.size wr w') := fun {i w'} hi h =>
          ⟨hS1.trans (only_of_below h _), fun hl => by rw [if_neg hi] at hl; exact (hS2 hl).trans (h.mono hS1.size)⟩
        have hcases : g = 0 ∨ g = 1 ∨ g = 2 ∨ g = 3 ∨ g = 4 ∨ g = 5 ∨ g = 6 ∨ g = 7 ∨ g = 8 ∨ g = 9 ∨ g = 10 ∨ g = 11 := by omega
        rcases hcases with rfl | rfl | rfl | rfl | rfl | rfl | rfl | rfl | rfl | rfl | rfl | rfl
        · obtain rfl := Option.some.inj ho; exact ⟨rfl, rfl, (by exact wpW_val (r_fld (.tmp 3) _ rfl ht3 (fld26_1 _ _)) ⟨_, rfl, hSn (by decide) (Below.refl _ _), hgb (by decide) (Below.refl _ _), rfl⟩)⟩
        · obtain rfl := Option.some.inj ho; exact ⟨rfl, rfl, (by exact wpW_val (r_load1 23 agg23 (.tmp 20) ⟨q, 1, none⟩ rfl (hpre ⟨0, .data⟩ (by simp) rfl) ((cell_of_row _ _ 1 _ _ _ hO2.q).trans rfl)) ⟨_, rfl, hSn (by decide) (Below.refl _ _), hgb (by decide) (Below.refl _ _), rfl⟩)⟩
        · obtain rfl := Option.some.inj ho
          have hal : Below w2.heap.size w2 (w2.alloc (.cells #[] 3)) := (Below.refl _ _).alloc (Nat.le_refl _) _
          exact ⟨rfl, rfl, (by exact wpW_val (r_bs22 rfl) ⟨_, rfl, hSn (by decide) hal, hgb (by decide) hal, _, rfl, heap_alloc_new _ _⟩)⟩
        · obtain rfl := Option.some.inj ho; exact ⟨rfl, rfl, (by exact wpW_val (r_fld (.tmp 1) _ rfl ht1 (fld26_1 _ _)) ⟨_, rfl, hSn (by decide) (Below.refl _ _), hgb (by decide) (Below.refl _ _), rfl⟩)⟩
        · obtain rfl := Option.some.inj ho; exact ⟨rfl, rfl, (by exact wpW_val (r_load1 23 agg23 (.tmp 23) ⟨w.heap.size, 1, none⟩ rfl (hpre ⟨3, .data⟩ (by simp) rfl) ((cell_of_row _ _ 1 _ _ _ hO2.box).trans rfl)) ⟨_, rfl, hSn (by decide) (Below.refl _ _), hgb (by decide) (Below.refl _ _), rfl⟩)⟩
        · obtain rfl := Option.some.inj ho; exact ⟨rfl, rfl, (by exact wpW_val (r_move (.tmp 4) rfl ht4) ⟨_, rfl, hSn (by decide) (Below.refl _ _), hgb (by decide) (Below.refl _ _), rfl⟩)⟩
        · obtain rfl := Option.some.inj ho; exact ⟨rfl, rfl, (by exact wpW_val (r_idx (.tmp 24) (.tmp 25) _ _ rfl (hpre ⟨4, .data⟩ (by simp) rfl) (hpre ⟨5, .data⟩ (by simp) rfl) (idx23 _ _ _ _ _ hlt _)) ⟨_, rfl, hSn (by decide) (Below.refl _ _), hgb (by decide) (Below.refl _ _), rfl⟩)⟩
        · obtain rfl := Option.some.inj ho; exact ⟨rfl, rfl, (by exact wpW_val (r_load1 22 agg22 (.tmp 26) ⟨b1, o1 + k, none⟩ rfl (hpre ⟨6, .data⟩ (by simp) rfl) ((KC.of_below hO2.below).cell hcr)) ⟨_, rfl, hSn (by decide) (Below.refl _ _), hgb (by decide) (Below.refl _ _), rfl⟩)⟩
        · obtain rfl := Option.some.inj ho
          obtain ⟨b5, e5, h5⟩ := hpre ⟨2, .data⟩ (by simp) rfl
          have e7 : a.eval (.tmp 27) = .slice Ar (P.pow k).length cr := hpre ⟨7, .data⟩ (by simp) rfl
          obtain ⟨b6, c6, w3, hr3, hb3, hy3⟩ := copy_x h5 (HIR.out.below hO2.below) hlx
          exact ⟨rfl, rfl, (by exact wpW_val (r_app (.tmp 22) (.tmp 27) 22 rfl e5 e7 hr3) ⟨_, rfl, hSn (by decide) hb3, hgb (by decide) hb3, b6, c6, rfl, hy3⟩)⟩
        · obtain rfl := Option.some.inj ho
          obtain ⟨b6, c6, e6, h6⟩ := hpre ⟨8, .data⟩ (by simp) rfl
          have hal : Below w2.heap.size w2 (w2.alloc (.cells #[.slice (some ⟨b6, 0, none⟩) (P.pow k).length c6] 22)) := (Below.refl _ _).alloc (Nat.le_refl _) _
          rw [e6] at h6
          exact ⟨rfl, rfl, (by exact wpW_val (r_bs23 (.tmp 28) _ _ _ rfl e6) ⟨_, rfl, hSn (by decide) hal, hgb (by decide) hal, _, _, rfl, hS1.size, heap_alloc_new _ _, rfl, h6.keep hal.size (AgX.of_below hal)⟩)⟩
        · obtain rfl := Option.some.inj ho
          have hw2 := hS2 hls
          have hsv : a.eval (.tmp 21) = .slice As k cs := hpre ⟨1, .data⟩ (by simp) rfl
          obtain ⟨bs, c, e9, -, hhs, hc1, htc⟩ := hpre ⟨9, .data⟩ (by simp) rfl
          have e9' : a.eval (.tmp 29) = .slice (some ⟨bs, 0, none⟩) 1 1 := e9
          obtain ⟨A', c', w3, hr3, hrow3, hg3, hag3⟩ := app_row Try.underlying23 info22p (by decide) (hR.below hw2) hlt0 (by omega) hhs hc1 htc hO2.below.size
          rw [show P.powers.take k ++ [P.pow k] = P.powers.take (k + 1) from (take_snoc_D _ _ hlt []).symm] at hrow3
          exact ⟨rfl, rfl, (by exact wpW_val (r_app (.tmp 21) (.tmp 29) 23 rfl hsv e9' hr3) ⟨_, rfl, ⟨hS1.trans hg3, fun h => by simp at h⟩, by unfold gO; rw [if_pos rfl]; exact ⟨hg3, hag3⟩, A', c', rfl, hrow3⟩)⟩
        · obtain rfl := Option.some.inj ho; exact ⟨rfl, rfl, (by exact wpW_val (r_fld (.tmp 3) _ rfl ht3 (fld26_1 _ _)) ⟨_, rfl, hSn (by decide) (Below.refl _ _), hgb (by decide) (Below.refl _ _), rfl⟩)⟩
      · intro ls a w2 hSl hlst hsame hsl
        obtain ⟨hS1, -⟩ := hSl
        have hO2 := hS.grown hS1 (fun r hr => ⟨(hrow r hr).1, (hrow r hr).2.2⟩) (by decide) (by decide)
        obtain ⟨A', c', e10, hrow3⟩ := hsl 10 (by omega)
        have e11 := hsl 11 (by omega)
        rw [e10] at hrow3
        obtain ⟨vs, hvs, hfr⟩ := hsame.frameV 69 rfl
        refine wpOpIn_of (o := ⟨none, .store 23 (.tmp 31) (.tmp 30), 0, _, _, none⟩) rfl rfl (wpW_skip (r_store23 (.tmp 31) (.tmp 30) q 1 A' (k + 1) c' rfl e11 e10 (by rw [cell_of_row _ _ 1 _ _ _ hO2.q]; rfl) (by simp [World.frozen?, hO2.q])) ?_)
        have HO3 := Lib.hid (hO2.set1 hq0 (.slice A' (k + 1) c'))
        have HR3 := Lib.hid (hrow3.set (j := 1) (v := .slice A' (k + 1) c') hO2.q (by decide) (by decide))
        have hpt : ∀ a : Act, a.put none undef = a := fun _ => rfl
        dsimp only
        rw [hpt]
        clear hsl hsame e10 e11 hvs hS1 hlst hS hR hO2 hrow3 hrow hrlt hlt0 hcr
        subst hfr
        generalize w2.setCell ⟨q, 1, none⟩ (.slice A' (k + 1) c') = w3 at *
        dsimp only
        simp only [List.range, List.range.loop, List.map_cons, List.map_nil, List.any_cons, List.any_nil, dmO, List.getD_cons_zero, List.getD_cons_succ, Nat.reduceBEq, Bool.or_false, Bool.or_true, Bool.false_eq_true, if_true, if_false]
        gi_wp2_with fail
        go_roundw
        case rel => exact ⟨k + 1, by omega, by go_num, _, HO3.out, HR3.out⟩
        case measure => simp [intOf]; omega
    · obtain rfl : k = P.powers.length := by omega
      have hO3 : Ow3 w.heap.size wr.heap.size (.slice As P.powers.length cs) (.slice none 0 0) P 0 wr := ⟨by have := hR.close; rwa [List.take_length] at this, by rw [List.take_zero]; exact RowOf.nil _ _ _ _ _ _ _⟩
      have HO3 := Lib.hid hO3
      clear hS hR hO3 hlt0 HRO HLT
      generalize Value.slice As P.powers.length cs = s1 at *
      gi_wp2_with fail
      obtain ⟨wa, hwa⟩ : ∃ wa, wa = wr := ⟨_, rfl⟩
      subst hwa
      gi_loopw [5] (fun s wr => ∃ k : Nat, k ≤ P.conj.length ∧ s = .int .i64 k ∧ ∃ s2, OwS w P (.slice A0 P.orders.length c0) (.slice A1 P.powers.length c1) (.slice A2 P.conj.length c2) q u0 s1 s2 wr ∧ Ow3 w.heap.size wr.heap.size s1 s2 P k wr) (fun s _ => P.conj.length - (intOf s).toNat)
      case atStart => exact ⟨0, Nat.zero_le _, by go_num, _, HS.out, HO3.out⟩
      case round =>
        obtain ⟨j, hj, rfl, s2, hS2, hR2⟩ := hrel
        have hcb2 : wr.cell? ⟨w.heap.size, 2, none⟩ = some (.slice A2 P.conj.length c2) := (cell_of_row _ _ 2 _ _ _ hS2.box).trans rfl
        obtain ⟨As2, cs2, es2⟩ := hR2.r2.form
        have hlj : (P.conj.take j).length = j := by rw [List.length_take]; omega
        rw [hlj] at es2
        subst es2
        have HLJ := Lib.hid hlj
        have HS2 := Lib.hid hS2
        have HR2 := Lib.hid hR2
        by_cases hjl : j < P.conj.length
        · have hj0 : (0 : Int) ≤ (j : Int) := Int.natCast_nonneg _
          have hj1 : (j : Int) < (P.conj.length : Int) := by omega
          obtain ⟨b2, o2, Ai, ci, rfl, hcj, hci1, hci2, hTj⟩ := conj_row' HP.out hjl
          have HTJ := Lib.hid hTj
          have HCJ := Lib.hid hcj
          have hLL := H2S.out j hjl
          have HL3 := Lib.hid (H3S.out j hjl)
          generalize hL : P.conj.getD j [] = L at *
          have HL := Lib.hid hL
          clear hS2 hR2 hcj hTj hL hcb hlj
          gi_wp2_with fail
          obtain ⟨wb, hwb⟩ : ∃ wb, wb = wr := ⟨_, rfl⟩
          subst hwb
          gi_loopw [6, 7] (fun s6 s7 wx => ∃ i : Nat, i ≤ L.length ∧ s7 = .int .i64 i ∧ OwS w P (.slice A0 P.orders.length c0) (.slice A1 P.powers.length c1) (.slice (some ⟨b2, o2, none⟩) P.conj.length c2) q u0 s1 (.slice As2 j cs2) wx ∧ Ow3 w.heap.size wb.heap.size s1 (.slice As2 j cs2) P j wx ∧ wb.heap.size ≤ wx.heap.size ∧ RowOf wb.heap.size wx.heap.size 22 [3] IntsAt [] wx s6 (L.take i)) (fun _ s _ => L.length - (intOf s).toNat)
          case atStart => exact ⟨0, Nat.zero_le _, by go_num, HS2.out, HR2.out, Nat.le_refl _, by rw [List.take_zero]; exact RowOf.nil _ _ _ _ _ _ _⟩
          case round =>
            obtain ⟨i, hi, rfl, hS4, hR4, hsz4, hX4⟩ := hrel
            obtain ⟨A6, c6, e6⟩ := hX4.form
            have hli : (L.take i).length = i := by rw [List.length_take]; omega
            rw [hli] at e6
            subst e6
            have hcx : wr.cell? ⟨w.heap.size, 2, none⟩ = some (.slice (some ⟨b2, o2, none⟩) P.conj.length c2) := (cell_of_row _ _ 2 _ _ _ hS4.box).trans rfl
            have hcy : wr.cell? ⟨b2, o2 + j, none⟩ = some (.slice Ai L.length ci) := (KC.of_below hS4.below).cell HCJ.out
            have HS4 := Lib.hid hS4
            have HR4 := Lib.hid hR4
            have HX4 := Lib.hid hX4
            have HLI := Lib.hid hli
            by_cases hil : i < L.length
            · have hi0 : (0 : Int) ≤ (i : Int) := Int.natCast_nonneg _
              have hi1 : (i : Int) < (L.length : Int) := by omega
              obtain ⟨b7, o7, A7, c7, rfl, hc7, hI7⟩ := tab_cell HTJ.out hil
              have hlx := HL3.out i hil
              have hal : Below wr.heap.size wr (wr.alloc (.cells #[] 3)) := (Below.refl _ _).alloc (Nat.le_refl _) _
              have hcx' := (KC.of_below hal).cell hcx
              have hcy' := (KC.of_below hal).cell hcy
              have hcz' := (KC.of_below (hS4.below.trans (hal.mono hS4.below.size))).cell hc7
              obtain ⟨b8, c8, w8, hr8, hb8, hy8⟩ := copy_x (w := wr.alloc (.cells #[] 3)) (b := wr.heap.size) (heap_alloc_new _ _) (hI7.below (hS4.below.trans (hal.mono hS4.below.size))) hlx
              have hal9 : Below w8.heap.size w8 (w8.alloc (.cells #[.slice (some ⟨b8, 0, none⟩) (L.getD i []).length c8] 22)) := (Below.refl _ _).alloc (Nat.le_refl _) _
              have hb9 : Below wr.heap.size wr (w8.alloc (.cells #[.slice (some ⟨b8, 0, none⟩) (L.getD i []).length c8] 22)) := (hal.trans (hb8.mono hal.size)).trans (hal9.mono (hal.trans (hb8.mono hal.size)).size)
              have hS9 := hS4.step hb9
              have hR9 := hR4.below (Nat.le_refl _) hsz4 hb9
              have hX9 := hX4.below hb9
              have hrow9 := hX9.row
              obtain ⟨A10, c10, w10, hr10, hX10, hg10, -⟩ := app_row Try.underlying23 info22p (by decide) hX9 hli (by omega) (heap_alloc_new w8 _) rfl (hy8.keep hal9.size (AgX.of_below hal9)) (Nat.le_trans hsz4 hb9.size)
              have hbase : w.heap.size ≤ wb.heap.size := HS2.out.below.size
              have hS10 := hS9.grown hg10 (fun r hr => ⟨by have := (hrow9 r hr).1; omega, (hrow9 r hr).2.2⟩) (by decide) (by decide)
              have hR10 := hR9.grown hg10 (fun r hr => ⟨(hrow9 r hr).1, (hrow9 r hr).2.2⟩)
              rw [show L.take i ++ [L.getD i []] = L.take (i + 1) from (take_snoc_D _ _ hil []).symm] at hX10
              have hsz10 : wb.heap.size ≤ w10.heap.size := Nat.le_trans (Nat.le_trans hsz4 hb9.size) hg10.size
              have HR8 := Lib.hid hr8
              have HR10 := Lib.hid hr10
              have HS10 := Lib.hid hS10
              have HK10 := Lib.hid hR10
              have HX10 := Lib.hid hX10
              clear hS4 hR4 hX4 hli hc7 hI7 hal hr8 hb8 hy8 hal9 hb9 hS9 hR9 hX9 hrow9 hr10 hX10 hg10 hS10 hR10
              generalize L.getD i [] = xi at *
              gi_wp2_with (first
                | ((with_reducible refine wpListIn_sel 59 ?_); refine wpListIn_val rfl (r_app (.tmp 50) (.tmp 58) 22 rfl rfl rfl HR8.out) ?_)
                | ((with_reducible refine wpListIn_sel 61 ?_); refine wpListIn_val rfl (r_app (.tmp 49) (.tmp 60) 23 rfl rfl rfl HR10.out) ?_))
              go_roundw
              case rel => exact ⟨i + 1, by omega, by go_num, HS10.out, HK10.out, hsz10, HX10.out⟩
              case measure => simp [intOf]; omega
            · obtain rfl : i = L.length := by omega
              have hcl := hX4.close
              rw [List.take_length] at hcl
              have hcq : wr.cell? ⟨q, 2, none⟩ = some (.slice As2 j cs2) := (cell_of_row _ _ 2 _ _ _ hS4.q).trans rfl
              have hal : Below wr.heap.size wr (wr.alloc (.cells #[.slice A6 L.length c6] 23)) := (Below.refl _ _).alloc (Nat.le_refl _) _
              have hS5 := hS4.step hal
              have hR5 := hR4.below (hi' := (wr.alloc (.cells #[.slice A6 L.length c6] 23)).heap.size) (Nat.le_trans hsz4 hal.size) hsz4 hal
              obtain ⟨A11, c11, w11, hr11, hX11, hg11, hag11⟩ := app_row Try.underlying24 info23p (by decide) hR5.r2 HLJ.out (by omega) (heap_alloc_new wr _) rfl (hcl.keep hal.size (AgX.of_below hal)) hS5.below.size
              have hrow5 := hR5.r2.row
              have hS11 := hS5.grown hg11 (fun r hr => ⟨(hrow5 r hr).1, (hrow5 r hr).2.2⟩) (by decide) (by decide)
              have ht11 := hR5.t1.keep hg11.size hag11
              have hsz : (w11.setCell ⟨q, 2, none⟩ (.slice A11 (j + 1) c11)).heap.size = w11.heap.size := by simp [World.setCell]
              have hX12 := hX11.set (j := 2) (v := .slice A11 (j + 1) c11) hS11.q (by decide) (by decide)
              have ht12 := ht11.set (j := 2) (v := .slice A11 (j + 1) c11) hS11.q (by decide)
              have hcq11 : (w11.cell? ⟨q, 2, none⟩).isSome = true := by rw [cell_of_row _ _ 2 _ _ _ hS11.q]; rfl
              have hfq11 : w11.frozen? ⟨q, 2, none⟩ = false := by simp [World.frozen?, hS11.q]
              rw [← hsz] at ht12
              rw [show P.conj.take j ++ [L] = P.conj.take (j + 1) by rw [← HL.out]; exact (take_snoc_D _ _ hjl []).symm] at hX12
              have HS12 := Lib.hid (hS11.set2 hq0 (.slice A11 (j + 1) c11))
              have HO12 : Hid (Ow3 w.heap.size (w11.setCell ⟨q, 2, none⟩ (.slice A11 (j + 1) c11)).heap.size s1 (.slice A11 (j + 1) c11) P (j + 1) (w11.setCell ⟨q, 2, none⟩ (.slice A11 (j + 1) c11))) := Lib.hid ⟨ht12, hX12⟩
              have HR11 := Lib.hid hr11
              have HCQ := Lib.hid hcq11
              have HFQ := Lib.hid hfq11
              clear hS4 hR4 hX4 hli hcl hal hS5 hR5 hr11 hX11 hg11 hag11 hrow5 hS11 ht11 hsz hX12 ht12 hcq11 hfq11
              gi_wp2_with (first
                | ((with_reducible refine wpListIn_sel 66 ?_); refine wpListIn_val rfl (r_app (.tmp 63) (.tmp 65) 24 rfl rfl rfl HR11.out) ?_)
                | ((with_reducible refine wpListIn_selStore 24 67 66 ?_); refine wpListIn_skip rfl (r_store24 (.tmp 67) (.tmp 66) q 2 A11 (j + 1) c11 rfl rfl rfl HCQ.out HFQ.out) ?_))
              go_roundw
              case rel => exact ⟨j + 1, by omega, by go_num, _, HS12.out, HO12.out⟩
              case measure => simp [intOf]; omega
        · obtain rfl : j = P.conj.length := by omega
          have hcl := hR2.r2.close
          rw [List.take_length] at hcl
          have ht := hR2.t1
          have hi0 := hS2.i0
          have hag : ∀ T, 26 ∉ T → AgX wr.heap.size T wr (wr.setRow (w.heap.size + 1) #[u0, s1, .slice As2 P.conj.length cs2]) := fun T hT k C t fr _ ht hk => by
            rw [setRow_other wr _ k _ (fun e => by subst e; rw [hS2.res] at hk; cases hk; exact hT ht)]; exact hk
          have hPc : PcAt (wr.setRow (w.heap.size + 1) #[u0, s1, .slice As2 P.conj.length cs2]) u0 s1 (.slice As2 P.conj.length cs2) P := ⟨(hi0.keep (Nat.le_refl _) (hag _ (by decide))).at_, (ht.keep (Nat.le_refl _) (hag _ (by decide))).at_, (hcl.keep (Nat.le_refl _) (hag _ (by decide))).at_⟩
          have hBe : Below w.heap.size w (wr.setRow (w.heap.size + 1) #[u0, s1, .slice As2 P.conj.length cs2]) := hS2.below.trans ⟨rfl, rfl, rfl, by rw [World.setRow]; simp, fun k hk => setRow_other wr _ k _ (by omega)⟩
          have hrow := setRow_heap wr (w.heap.size + 1) _ #[u0, s1, .slice As2 P.conj.length cs2] 26 (0, 0) hS2.res
          obtain ⟨As1, n1, cs1, es1⟩ : ∃ A n c, s1 = .slice A n c := by
            obtain ⟨A, c, e, -⟩ := ht.at_.open_
            exact ⟨A, _, c, e⟩
          have h1c : #[u0, s1, .slice As2 P.conj.length cs2].all (·.oneCell') = true := by
            have e3 : ∀ a b c : Value, a.oneCell' = true → b.oneCell' = true → c.oneCell' = true → #[a, b, c].all (·.oneCell') = true := fun a b c ha hb hc => by simp [ha, hb, hc]
            exact e3 _ _ _ HU0.out (by rw [es1]; rfl) rfl
          have hhr := hS2.res
          have hbb := hS2.q
          have HPC := Lib.hid hPc
          have HBE := Lib.hid hBe
          have HRW := Lib.hid hrow
          have HHR := Lib.hid hhr
          have HBB := Lib.hid hbb
          have H1C := Lib.hid h1c
          clear hS2 hR2 hlj hcl ht hi0 hag hPc hBe hrow es1 h1c hhr hbb
          gi_wp2_with ((with_reducible refine wpListIn_sel 68 ?_); (refine wpListIn_val rfl (r_load26 (.tmp 3) q u0 s1 (.slice As2 P.conj.length cs2) rfl rfl HBB.out) ?_; refine wpListIn_skip rfl (r_store26 (.tmp 2) (.tmp 68) rfl (w.heap.size + 1) _ #[u0, s1, .slice As2 P.conj.length cs2] rfl rfl HHR.out info26s rfl H1C.out) ?_))
          exact bodyPost_ret (results_cell_row (P := Try.prog) (p := 2) rfl _ _ (w.heap.size + 1) 26 #[u0, s1, .slice As2 P.conj.length cs2] (0, 0) _ rfl HRW.out Try.underlying26 rfl (by kernel_rfl)) rfl ⟨⟨_, _, _, rfl, HPC.out⟩, HBE.out⟩
theorem own22_any (w : World) (v0 v1 v2 : Value) (P : PcD) (hP : PcAt w v0 v1 v2 P) (h0 : P.orders.length ≤ 1000) (h1 : P.powers.length ≤ 1000) (h1s : ∀ k, k < P.powers.length → (P.powers.getD k []).length ≤ 1000)
    (h2 : P.conj.length ≤ 1000) (h2s : ∀ k, k < P.conj.length → (P.conj.getD k []).length ≤ 1000) (h3s : ∀ k, k < P.conj.length → ∀ i, i < (P.conj.getD k []).length → ((P.conj.getD k []).getD i []).length ≤ 1000) :
    Calls Try.prog 22 #[.agg #[v0, v1, v2]] w fun e w' => (∃ u0 u1 u2, e = .returned (.agg #[u0, u1, u2]) ∧ PcAt w' u0 u1 u2 P) ∧ Below w.heap.size w w' :=
  callsIn_wide.1 (own22_in w v0 v1 v2 P hP h0 h1 h1s h2 h2s h3s)
end Go.Proofs
namespace Go.Proofs
open Go.RowKit Go.Proofs.Pc

def SomeB (w : World) (e : Ending) (w' : World) : Prop := (∃ b : Bool, e = .returned (.bool b)) ∧ Below w.heap.size w w'

set_option maxRecDepth 100000 in
set_option maxHeartbeats 1000000 in
theorem vast_any (w : World) (v0 v1 v2 : Value) (P : PcD) (hP : PcAt w v0 v1 v2 P) : Calls Try.prog 11 #[.agg #[v0, v1, v2]] w (SomeB w) := by
  obtain ⟨A0, c0, rfl, h01, h02, hr0⟩ := hP.1.open_
  obtain ⟨A1, c1, rfl, h11, h12, hr1⟩ := hP.2.1.open_
  obtain ⟨A2, c2, rfl, h21, h22, hr2⟩ := hP.2.2.open_
  have HD := Lib.hid (show Bc w (.slice A0 P.orders.length c0) (.slice A1 P.powers.length c1) (.slice A2 P.conj.length c2) (w.alloc (.cells #[.slice A0 P.orders.length c0, .slice A1 P.powers.length c1, .slice A2 P.conj.length c2] 26)) from ⟨(Below.refl _ _).alloc (Nat.le_refl _) _, heap_alloc_new w _⟩)
  have HP := Lib.hid hP
  clear hr0 hr1 hr2 hP
  by_cases hbig : P.orders.length > 15 ∨ P.powers.length > 15 ∨ P.conj.length > 15
  · rcases hbig with h | h | h
    · have d : decide ((15 : Int) < (P.orders.length : Int)) = true := by simp; omega
      go_enter Try.func11, Try.ntmps11
      go_wp2_with fail
      go_ret
      exact ⟨⟨_, rfl⟩, HD.out.below⟩
    · by_cases h' : P.orders.length > 15
      · have d : decide ((15 : Int) < (P.orders.length : Int)) = true := by simp; omega
        go_enter Try.func11, Try.ntmps11
        go_wp2_with fail
        go_ret
        exact ⟨⟨_, rfl⟩, HD.out.below⟩
      · have d' : decide ((15 : Int) < (P.orders.length : Int)) = false := by simp; omega
        have d : decide ((15 : Int) < (P.powers.length : Int)) = true := by simp; omega
        go_enter Try.func11, Try.ntmps11
        go_wp2_with fail
        go_ret
        exact ⟨⟨_, rfl⟩, HD.out.below⟩
    · by_cases h' : P.orders.length > 15
      · have d : decide ((15 : Int) < (P.orders.length : Int)) = true := by simp; omega
        go_enter Try.func11, Try.ntmps11
        go_wp2_with fail
        go_ret
        exact ⟨⟨_, rfl⟩, HD.out.below⟩
      · have d' : decide ((15 : Int) < (P.orders.length : Int)) = false := by simp; omega
        by_cases h'' : P.powers.length > 15
        · have d : decide ((15 : Int) < (P.powers.length : Int)) = true := by simp; omega
          go_enter Try.func11, Try.ntmps11
          go_wp2_with fail
          go_ret
          exact ⟨⟨_, rfl⟩, HD.out.below⟩
        · have d'' : decide ((15 : Int) < (P.powers.length : Int)) = false := by simp; omega
          have d : decide ((15 : Int) < (P.conj.length : Int)) = true := by simp; omega
          go_enter Try.func11, Try.ntmps11
          go_wp2_with fail
          go_ret
          exact ⟨⟨_, rfl⟩, HD.out.below⟩
  have e0 : decide ((15 : Int) < (P.orders.length : Int)) = false := by simp; omega
  have e1 : decide ((15 : Int) < (P.powers.length : Int)) = false := by simp; omega
  have e2 : decide ((15 : Int) < (P.conj.length : Int)) = false := by simp; omega
  go_enter Try.func11, Try.ntmps11
  go_wp2_with fail
  generalize w.alloc (.cells #[.slice A0 P.orders.length c0, .slice A1 P.powers.length c1, .slice A2 P.conj.length c2] 26) = W at *
  have k1 := HD.out.c1
  have k2 := HD.out.c2
  have HPW := Lib.hid (HP.out.below HD.out.below)
  go_loop [3] (fun s => ∃ k : Nat, k ≤ P.powers.length ∧ s = .int .i64 k) (fun s => P.powers.length - (intOf s).toNat)
  case atStart => exact ⟨0, Nat.zero_le _, rfl⟩
  case round =>
    obtain ⟨k, hk, rfl⟩ := hrel
    by_cases hlt : k < P.powers.length
    · obtain ⟨b, o, A, cc, rfl, hc, hI⟩ := pow_cell' HPW.out hlt
      have hk0 : (0 : Int) ≤ (k : Int) := Int.natCast_nonneg _
      have hk1 : (k : Int) < (P.powers.length : Int) := by omega
      clear hI
      by_cases hl : (P.pow k).length > 15
      · have d : decide ((15 : Int) < ((P.pow k).length : Int)) = true := by simp; omega
        go_wp2_with fail
        go_ret
        exact ⟨⟨_, rfl⟩, HD.out.below⟩
      · have d : decide ((15 : Int) < ((P.pow k).length : Int)) = false := by simp; omega
        go_wp2_with fail
        go_round
        case rel => exact ⟨k + 1, by omega, by go_num⟩
        case measure => simp [intOf]; omega
    · obtain rfl : k = P.powers.length := by omega
      go_wp2_with fail
      go_loop [4] (fun s => ∃ k : Nat, k ≤ P.conj.length ∧ s = .int .i64 k) (fun s => P.conj.length - (intOf s).toNat)
      case atStart => exact ⟨0, Nat.zero_le _, rfl⟩
      case round =>
        obtain ⟨k, hk, rfl⟩ := hrel
        by_cases hlt : k < P.conj.length
        · obtain ⟨b, o, A, cc, rfl, hc, hc1, hc2, hT⟩ := conj_row' HPW.out hlt
          have hk0 : (0 : Int) ≤ (k : Int) := Int.natCast_nonneg _
          have hk1 : (k : Int) < (P.conj.length : Int) := by omega
          generalize P.conj.getD k [] = row at *
          have HT := Lib.hid hT
          clear hT
          by_cases hl : row.length > 15
          · have d : decide ((15 : Int) < (row.length : Int)) = true := by simp; omega
            go_wp2_with fail
            go_ret
            exact ⟨⟨_, rfl⟩, HD.out.below⟩
          · have d : decide ((15 : Int) < (row.length : Int)) = false := by simp; omega
            go_wp2_with fail
            go_loop [5] (fun s => ∃ j : Nat, j ≤ row.length ∧ s = .int .i64 j) (fun s => row.length - (intOf s).toNat)
            case atStart => exact ⟨0, Nat.zero_le _, rfl⟩
            case round =>
              obtain ⟨j, hj, rfl⟩ := hrel
              by_cases hjl : j < row.length
              · obtain ⟨b3, o3, A3, c3, rfl, hcj, hIj⟩ := row_cell' HT.out hjl
                have hj0 : (0 : Int) ≤ (j : Int) := Int.natCast_nonneg _
                have hj1 : (j : Int) < (row.length : Int) := by omega
                clear hIj
                generalize row.getD j [] = rj at *
                by_cases hl2 : rj.length > 15
                · have d2 : decide ((15 : Int) < (rj.length : Int)) = true := by simp; omega
                  go_wp2_with fail
                  go_ret
                  exact ⟨⟨_, rfl⟩, HD.out.below⟩
                · have d2 : decide ((15 : Int) < (rj.length : Int)) = false := by simp; omega
                  go_wp2_with fail
                  go_round
                  case rel => exact ⟨j + 1, by omega, by go_num⟩
                  case measure => simp [intOf]; omega
              · obtain rfl : j = row.length := by omega
                go_wp2_with fail
                go_round
                case rel => exact ⟨k + 1, by omega, by go_num⟩
                case measure => simp [intOf]; omega
        · obtain rfl : k = P.conj.length := by omega
          go_wp2_with fail
          go_ret
          exact ⟨⟨_, rfl⟩, HD.out.below⟩

set_option maxRecDepth 100000 in
set_option maxHeartbeats 1000000 in
theorem heavy_any (w : World) (v0 v1 v2 : Value) (P : PcD) (hP : PcAt w v0 v1 v2 P) : Calls Try.prog 12 #[.agg #[v0, v1, v2]] w (SomeB w) := by
  obtain ⟨A0, c0, rfl, h01, h02, hr0⟩ := hP.1.open_
  obtain ⟨A1, c1, rfl, h11, h12, hr1⟩ := hP.2.1.open_
  obtain ⟨A2, c2, rfl, h21, h22, hr2⟩ := hP.2.2.open_
  have HD := Lib.hid (show Bc w (.slice A0 P.orders.length c0) (.slice A1 P.powers.length c1) (.slice A2 P.conj.length c2) (w.alloc (.cells #[.slice A0 P.orders.length c0, .slice A1 P.powers.length c1, .slice A2 P.conj.length c2] 26)) from ⟨(Below.refl _ _).alloc (Nat.le_refl _) _, heap_alloc_new w _⟩)
  have HR0 := Lib.hid hr0
  clear hr0 hr1 hr2 hP
  go_enter Try.func12, Try.ntmps12
  go_wp2_with fail
  generalize w.alloc (.cells #[.slice A0 P.orders.length c0, .slice A1 P.powers.length c1, .slice A2 P.conj.length c2] 26) = W at *
  have k0 := HD.out.c0
  go_loop [3, 4] (fun t s => ∃ (k : Nat) (n : Int), k ≤ P.orders.length ∧ k ≤ 5 ∧ s = .int .i64 k ∧ t = .int .i64 n ∧ 0 ≤ n ∧ n ≤ 400) (fun _ s => 5 - (intOf s).toNat)
  case atStart => exact ⟨0, 1, Nat.zero_le _, by omega, rfl, rfl, by omega, by omega⟩
  case round =>
    obtain ⟨k, n, hk, hk5, rfl, rfl, hn0, hn1⟩ := hrel
    have hk0 : (0 : Int) ≤ (k : Int) := Int.natCast_nonneg _
    by_cases hlt : k < P.orders.length ∧ k < 5
    · obtain ⟨b0, o0, rfl, hc⟩ := HR0.out (by omega)
      have hck : W.cell? ⟨b0, o0 + k, none⟩ = some (.int .i64 (P.orders.getD k 0)) := (KC.of_below HD.out.below).cell (hc k hlt.1)
      have hkn : (k : Int) < (P.orders.length : Int) := by omega
      have e1 : decide ((k : Int) < (P.orders.length : Int)) = true := by simp; omega
      have e1' : decide (k < P.orders.length) = true := by simp; omega
      have e2 : decide ((k : Int) < 5) = true := by simp; omega
      have e2' : decide (k < 5) = true := by simp; omega
      clear hc
      generalize P.orders.getD k 0 = x at *
      by_cases h2 : x < 2
      · have d : decide (x < 2) = true := by simpa using h2
        go_wp2_with fail
        go_ret
        exact ⟨⟨_, rfl⟩, HD.out.below⟩
      · have d : decide (x < 2) = false := by simpa using h2
        by_cases h3 : 1000 < x
        · have d2 : decide (1000 < x) = true := by simpa using h3
          go_wp2_with fail
          go_ret
          exact ⟨⟨_, rfl⟩, HD.out.below⟩
        · have d2 : decide (1000 < x) = false := by simpa using h3
          have hm1 : n * x ≤ 400 * 1000 := Int.mul_le_mul hn1 (by omega) (by omega) (by omega)
          have hm2 : 0 ≤ n * x := Int.mul_nonneg hn0 (by omega)
          have hmw : IntKind.i64.wrap (n * x) = n * x := IntWalk.i64_in _ (by omega)
          by_cases h4 : 400 < n * x
          · have d3 : decide (400 < n * x) = true := by simpa using h4
            go_wp2_with fail
            go_ret
            exact ⟨⟨_, rfl⟩, HD.out.below⟩
          · have d3 : decide (400 < n * x) = false := by simpa using h4
            go_wp2_with fail
            go_round
            case rel => exact ⟨k + 1, n * x, by omega, by omega, by go_num, rfl, hm2, by omega⟩
            case measure => simp [intOf]; omega
    · by_cases hl2 : k < P.orders.length
      · have e1 : decide ((k : Int) < (P.orders.length : Int)) = true := by simp; omega
        have e1' : decide (k < P.orders.length) = true := by simp; omega
        have e2 : decide ((k : Int) < 5) = false := by simp; omega
        have e2' : decide (k < 5) = false := by simp; omega
        go_wp2_with fail
        go_ret
        exact ⟨⟨_, rfl⟩, HD.out.below⟩
      · have e1 : decide ((k : Int) < (P.orders.length : Int)) = false := by simp; omega
        have e1' : decide (k < P.orders.length) = false := by simp; omega
        go_wp2_with fail
        go_ret
        exact ⟨⟨_, rfl⟩, HD.out.below⟩
end Go.Proofs
namespace Go.Proofs
open Go.RowKit Go.Proofs.Pc

theorem check_known0 : checkD (knownD 0) = (0, 0) := by decide +kernel
theorem cons_known0 : consB (knownD 0) = true := by decide +kernel
theorem take_a : takeErr (knownD 0) [0, 1, 0] = 0 := by decide +kernel
theorem take_b : takeErr (knownD 0) [1, 0, 0] = 0 := by decide +kernel
theorem mul_a : mulP (knownD 0) [0, 1, 0] [1, 0, 0] = [1, 1, 1] := by decide +kernel
theorem mul_b : mulP (knownD 0) [1, 0, 0] [1, 0, 0] = [0, 0, 1] := by decide +kernel
theorem prod_known0 : prod (knownD 0) (knownD 0).n = 8 := by decide +kernel
theorem small_known0 : Small (knownD 0) := fun k hk => by
  have h : k ≤ 3 := hk
  have : k = 0 ∨ k = 1 ∨ k = 2 ∨ k = 3 := by omega
  rcases this with rfl | rfl | rfl | rfl <;> decide +kernel

theorem mul_eval {P : PcD} (hv : Valid P) {w : World} {bg br : Nat} (hg : GrpAt w bg br P) {s1 s2 : Value} {xs ys zs : List Int} (h1 : IntsAt w s1 xs) (h2 : IntsAt w s2 ys) (hx : takeErr P xs = 0) (hy : takeErr P ys = 0) (hz : mulP P xs ys = zs) :
    Calls Try.prog 29 #[.pointer (some ⟨bg, 0, none⟩), s1, s2] w fun e w' => ∃ A c, e = .returned (.tuple #[.slice A zs.length c, .int .i64 0]) ∧ IntsAt w' (.slice A zs.length c) zs ∧ Below w.heap.size w w' :=
  (mul_live hv w bg br hg.live hg.rules s1 s2 xs ys h1 h2 hx hy).mono fun e w' ⟨⟨u, he, hu⟩, hb⟩ => by
    have hm : mulErr P xs ys = 0 := by unfold mulErr; rw [if_pos hx, hy]
    rw [hm] at he
    rw [if_pos hm, hz] at hu
    obtain ⟨A, c, rfl, -⟩ := hu.open_
    exact ⟨A, c, he, hu, hb⟩
theorem two_allocs (w : World) (o1 o2 : Obj) : Below w.heap.size w ((w.alloc o1).alloc o2) := allocs_below [o1, o2] w _ (Nat.le_refl _)
theorem two_fst (w : World) (xs : List Int) (o2 : Obj) (hf : fitsB xs = true) (hl : xs.length ≤ 1000) (n : Nat) (hn : xs.length = n) : IntsAt ((w.alloc (.cells (xs.map (Value.int .i64)).toArray 3)).alloc o2) (.slice (some ⟨w.heap.size, 0, none⟩) n n) xs :=
  ints_lit xs (allocs_get [_, o2] w 0 _ rfl) hn (by omega) hf
theorem two_snd (w : World) (xs : List Int) (o1 : Obj) (hf : fitsB xs = true) (hl : xs.length ≤ 1000) (n : Nat) (hn : xs.length = n) : IntsAt ((w.alloc o1).alloc (.cells (xs.map (Value.int .i64)).toArray 3)) (.slice (some ⟨w.heap.size + 1, 0, none⟩) n n) xs :=
  ints_lit xs (allocs_get [o1, _] w 1 _ rfl) hn (by omega) hf
theorem one_ints (w : World) (xs : List Int) (hf : fitsB xs = true) (hl : xs.length ≤ 1000) (n : Nat) (hn : xs.length = n) : IntsAt (w.alloc (.cells (xs.map (Value.int .i64)).toArray 3)) (.slice (some ⟨w.heap.size, 0, none⟩) n n) xs :=
  ints_lit xs (heap_alloc_new w _) hn (by omega) hf

set_option maxRecDepth 100000 in
set_option maxHeartbeats 1000000 in
theorem awake_any (w : World) : Calls Try.prog 13 #[] w fun e w' => e = .returned (.bool true) ∧ Below w.heap.size w w' := by
  have hv : Valid (knownD 0) := valid_of_check (by rw [check_known0])
  have tok1 : True := trivial
  have tok2 : True := trivial
  have tok3 : True := trivial
  go_enter Try.func13, Try.ntmps13
  go_wp2_with (first
    | (go_at_call 28; (refine (known_0 _ 0 (by omega) rfl).mono ?_); rintro e w1 ⟨⟨u0, u1, u2, rfl, hp⟩, hb1⟩; have HP := Lib.hid hp; have HB1 := Lib.hid hb1; clear hp hb1)
    | (go_at_call 16; (refine (new_good _ _ _ _ _ HP.out (by rw [check_known0]) cons_known0).mono ?_); rintro e w2 ⟨⟨bg, br, rfl, hg, -⟩, hb2⟩; have HG := Lib.hid hg; have HB2 := Lib.hid (HB1.out.trans (hb2.mono HB1.out.size)); clear hg hb2)
    | (go_at_call 29
       have _t := tok1
       refine (mul_eval hv (HG.out.below (two_allocs _ _ _)) (two_fst w2 [0, 1, 0] _ rfl (by decide) 3 rfl) (two_snd w2 [1, 0, 0] _ rfl (by decide) 3 rfl) take_a take_b mul_a).mono ?_
       rintro e w3 ⟨A, c, rfl, hx, hb3⟩
       have hb3' : Below w2.heap.size w2 w3 := (two_allocs w2 _ _).trans (hb3.mono (two_allocs w2 _ _).size)
       have HG3 := Lib.hid (HG.out.below hb3')
       have HX := Lib.hid hx
       have HB3 := Lib.hid (HB2.out.trans (hb3'.mono HB2.out.size))
       clear hx hb3 hb3' tok1 _t)
    | (go_at_call 29
       have _t := tok2
       refine (mul_eval hv (HG3.out.below (two_allocs _ _ _)) (two_fst w3 [1, 0, 0] _ rfl (by decide) 3 rfl) (two_snd w3 [1, 0, 0] _ rfl (by decide) 3 rfl) take_b take_b mul_b).mono ?_
       rintro e w4 ⟨B, d, rfl, hy, hb4⟩
       have hb4' : Below w3.heap.size w3 w4 := (two_allocs w3 _ _).trans (hb4.mono (two_allocs w3 _ _).size)
       have HG4 := Lib.hid (HG3.out.below hb4')
       have HX4 := Lib.hid (HX.out.below hb4')
       have HY4 := Lib.hid hy
       have HB4 := Lib.hid (HB3.out.trans (hb4'.mono HB3.out.size))
       clear hy hb4 hb4' tok2 _t)
    | (go_at_call 18; (refine (order_live hv small_known0 _ bg br HG4.out.live HG4.out.rules).mono ?_); rintro e w5 ⟨rfl, rfl⟩; rw [prod_known0])
    | (go_at_call 31
       have _t := tok3
       refine (equal_yes _ _ _ [1, 1, 1] [1, 1, 1] (HX4.out.below ((Below.refl _ _).alloc (Nat.le_refl _) _)) (one_ints _ [1, 1, 1] rfl (by decide) 3 rfl) rfl).mono ?_
       rintro e w6 ⟨rfl, hb6⟩
       have hb6' := ((Below.refl _ _).alloc (Nat.le_refl _) _).trans (hb6.mono (by simp))
       have HY6 := Lib.hid (HY4.out.below hb6')
       have HB6 := Lib.hid (HB4.out.trans (hb6'.mono HB4.out.size))
       clear hb6 hb6' tok3 _t)
    | (go_at_call 31
       refine (equal_yes _ _ _ [0, 0, 1] [0, 0, 1] (HY6.out.below ((Below.refl _ _).alloc (Nat.le_refl _) _)) (one_ints _ [0, 0, 1] rfl (by decide) 3 rfl) rfl).mono ?_
       rintro e w7 ⟨rfl, hb7⟩
       have hb7' := ((Below.refl _ _).alloc (Nat.le_refl _) _).trans (hb7.mono (by simp))
       have HB7 := Lib.hid (HB6.out.trans (hb7'.mono HB6.out.size))
       clear hb7 hb7'))
  go_ret
  exact ⟨rfl, HB7.out⟩
end Go.Proofs
