/- SmithMinors, where a form is found; SmithMinors, whole; Arguments opened: lists of numbers, tables, presentations. -/
import Derived.Test.YthfachbkcmifbaaMiCS10
import Derived.Test.YthfachbkcmifbaaMiCS1
import Derived.ProofKit
import Derived.Deep.Slices
import Derived.Deep.Strs
namespace Go.Proofs
open Go.RowKit Go.Shelf Go.Proofs.Sm
theorem pow_step (t : Nat) : 2 * (6 * (2 : Int) ^ t) = 6 * 2 ^ (t + 1) := by rw [Int.pow_succ]; omega
theorem pow_up (t : Nat) : 6 * (2 : Int) ^ t ≤ 6 * 2 ^ (t + 1) := by
  have : (0 : Int) ≤ 2 ^ t := Int.pow_nonneg (by omega)
  rw [Int.pow_succ]; omega
theorem pow5 {t : Nat} (h : t ≤ 5) : 1 ≤ (2 : Int) ^ t ∧ (2 : Int) ^ t ≤ 32 := by
  obtain rfl | rfl | rfl | rfl | rfl | rfl : t = 0 ∨ t = 1 ∨ t = 2 ∨ t = 3 ∨ t = 4 ∨ t = 5 := by omega
  all_goals decide
theorem min_at {w0 : World} {v : Value} {a : Mat} {r n k : Nat} (h : Tab w0 v a) (ha : Rect a r n) (hr1 : 1 ≤ r) (hr : r ≤ 4) (hn : n ≤ 4) (hk1 : 1 ≤ k) (hk : k ≤ 4) (hbd : ∀ i j, -6 ≤ ent a i j ∧ ent a i j ≤ 6) (W : World) (hW : Below w0.heap.size w0 W) :
    Calls Try.prog 24 #[v, .int .i64 (n : Int), .int .i64 (k : Int)] W fun e w' => e = .returned (.int .i64 (minG k a r n)) ∧ Hid (Below w0.heap.size w0 w') :=
  (minors24_any W v a r n k (kept_tab.below h hW) ha hr1 hr hn hk1 hk hbd).mono fun _e _w' ⟨he, hb⟩ => ⟨he, Lib.hid (hW.trans (hb.mono hW.size))⟩
theorem ints_part {w w' : World} {A : Option Addr} {n c b0 : Nat} {xs : List Int} (h : IntsAt w (.slice A n c) xs) (hs : ∀ r, (Value.slice A n c).ownBlock = some r → b0 ≤ r) (hw : ∀ p, b0 ≤ p → p < w.heap.size → w'.heap[p]? = w.heap[p]?) : IntsAt w' (.slice A n c) xs := by
  obtain ⟨⟨A0, n0, c0, e, h1, h2, h3, h4⟩, hf⟩ := h
  obtain ⟨rfl, rfl, rfl⟩ := Value.slice.inj e
  refine ⟨⟨A, n, c, rfl, h1, h2, h3, fun hp => ?_⟩, hf⟩
  obtain ⟨b, off, rfl, hr⟩ := h4 hp
  refine ⟨b, off, rfl, fun j u hj => ?_⟩
  have hc := hr j u hj
  have hlt : b < w.heap.size := World.block_lt_of_cell? w _ hc
  have := hw b (hs b rfl) hlt
  rw [← hc]
  simp [World.cell?, this]
/-- the state of the changes: D's memory lies below b0, the taker's box is b; between them nothing turns -/
structure MinM (b b0 : Nat) (w w4 wr : World) (v : Value) (Ay : Option Addr) (cy len : Nat) (bl cs : Nat → Nat) (A : Mat) : Prop where
  mat : MatM w.heap.size wr v bl cs A
  lt : (∀ i, i < A.length → bl i < b0) ∧ ∀ r, v.ownBlock = some r → r < b0
  keep : ∀ p, b0 ≤ p → p < b → wr.heap[p]? = w4.heap[p]?
  lb : b0 ≤ b ∧ w.heap.size ≤ b
  box : ∃ k, BoxAt b wr Ay cy len k
  below : Below w.heap.size w wr
section
variable {b b0 : Nat} {w w4 wr : World} {v : Value} {Ay : Option Addr} {cy len : Nat} {A : Mat} {bl cs : Nat → Nat}
theorem MinM.took (h : MinM b b0 w w4 wr v Ay cy len bl cs A) {w' : World} (hg : wr.grownBy w' (some b)) {k : Nat} (hb : BoxAt b w' Ay cy len k) : MinM b b0 w w4 w' v Ay cy len bl cs A := by
  obtain ⟨k0, hk0⟩ := h.box
  have hlt : b < wr.heap.size := (Array.getElem?_eq_some_iff.1 hk0.1).1
  exact ⟨h.mat.grown hk0.1 hg, h.lt, fun p hp hpb => (hg.block p (by omega) (fun e => by have := Option.some.inj e; omega)).trans (h.keep p hp hpb), h.lb, ⟨k, hb⟩, h.below.grown hg h.below.size fun r hr => by have := Option.some.inj hr; have := h.lb; omega⟩
theorem MinM.drewN (h : MinM b b0 w w4 wr v Ay cy len bl cs A) (q : Nat) : MinM b b0 w w4 (wr.drewN q) v Ay cy len bl cs A :=
  ⟨h.mat.same (fun _ _ => rfl) (fun _ _ => rfl), h.lt, fun p hp hpb => h.keep p hp hpb, h.lb, h.box, below_drewN h.below q⟩
/-- writing below b0 -/
theorem MinM.write (h : MinM b b0 w w4 wr v Ay cy len bl cs A) {g j : Nat} (hgb : g < b0) (hgw : w.heap.size ≤ g) (u : Value) :
    (∀ p, b0 ≤ p → p < b → (wr.setCell ⟨g, j, none⟩ u).heap[p]? = w4.heap[p]?) ∧ (∃ k, BoxAt b (wr.setCell ⟨g, j, none⟩ u) Ay cy len k) ∧ Below w.heap.size w (wr.setCell ⟨g, j, none⟩ u) := by
  have hne : ∀ p, p ≠ g → (wr.setCell ⟨g, j, none⟩ u).heap[p]? = wr.heap[p]? := fun p hp => Below.heap_setCell wr ⟨g, j, none⟩ _ p hp
  obtain ⟨k0, hk0⟩ := h.box
  refine ⟨fun p hp hpb => (hne p (by omega)).trans (h.keep p hp hpb), ⟨k0, (hne b (by have := h.lb; omega)).trans hk0.1, hk0.2⟩, h.below.setCell (p := ⟨g, j, none⟩) hgw _⟩
theorem MinM.put (h : MinM b b0 w w4 wr v Ay cy len bl cs A) {i j : Nat} (hi : i < A.length) (hj : j < (A.getD i []).length) (z : Int) : MinM b b0 w w4 (wr.setCell ⟨bl i, j, none⟩ (.int .i64 z)) v Ay cy len bl cs (put A i j z) := by
  obtain ⟨h1, h2, h3⟩ := h.write (j := j) (h.lt.1 i hi) (h.mat.row i hi).1 (.int .i64 z)
  exact ⟨h.mat.set hi hj z, ⟨fun p hp => h.lt.1 p (by rw [length_put] at hp; exact hp), h.lt.2⟩, h1, h.lb, h2, h3⟩
theorem MinM.swap (h : MinM b b0 w w4 wr v Ay cy len bl cs A) {i j g : Nat} (hi : i < A.length) (hj : j < A.length) (hg : v.ownBlock = some g) :
    MinM b b0 w w4 ((wr.setCell ⟨g, i, none⟩ (.slice (some ⟨bl j, 0, none⟩) (A.getD j []).length (cs j))).setCell ⟨g, j, none⟩ (.slice (some ⟨bl i, 0, none⟩) (A.getD i []).length (cs i))) v Ay cy len (fun p => bl (sw i j p)) (fun p => cs (sw i j p)) (swR A i j) := by
  have hgb := h.lt.2 g hg
  have hgw := (h.mat.lt.2 g hg).1
  have hne : ∀ p, p ≠ g → ((wr.setCell ⟨g, i, none⟩ (.slice (some ⟨bl j, 0, none⟩) (A.getD j []).length (cs j))).setCell ⟨g, j, none⟩ (.slice (some ⟨bl i, 0, none⟩) (A.getD i []).length (cs i))).heap[p]? = wr.heap[p]? := fun p hp =>
    (Below.heap_setCell _ ⟨g, j, none⟩ _ p hp).trans (Below.heap_setCell wr ⟨g, i, none⟩ _ p hp)
  obtain ⟨k0, hk0⟩ := h.box
  have hlen : (swR A i j).length = A.length := by simp [swR]
  exact ⟨h.mat.swap hi hj hg, ⟨fun p hp => h.lt.1 _ (sw_bd hi hj (by rw [hlen] at hp; exact hp)), h.lt.2⟩, fun p hp hpb => (hne p (by omega)).trans (h.keep p hp hpb), h.lb, ⟨k0, (hne b (by have := h.lb; omega)).trans hk0.1, hk0.2⟩, (h.below.setCell (p := ⟨g, i, none⟩) hgw _).setCell (p := ⟨g, j, none⟩) hgw _⟩
end
set_option maxRecDepth 100000 in
set_option maxHeartbeats 4000000 in
theorem minors_some (w : World) (v1 v2 : Value) (l l2 : List Int) (x y : Int) (h1 : IntsAt w v1 l) (h2 : IntsAt w v2 l2) (hx : In64 x) (hy : In64 y) (hl : l.length ≤ 20) (hl2 : l2.length ≤ 20) (rows n p m : Nat) (hxr : x % 4 = (p : Int)) (hym : y % 4 = (m : Int)) (hr : rows = p + 1) (hn : n = m + 1) (hr4 : rows ≤ 4) (hn4 : n ≤ 4) (s : S) (ho : Out n (drawnE l rows n) (some s)) : Calls Try.prog 5 #[v1, v2, .int .i64 x, .int .i64 y] w (YesPost w) := by
  have hE : SmE n (drawnE l rows n) (diagOf s) s.u s.v 0 := .inr ⟨check_ok (by omega) (by omega) (by rw [drawnE_length]; omega) (drawn_valid l rows n), .inr ⟨s, by rw [Int.toNat_natCast]; exact ho, rfl, rfl, rfl, rfl⟩⟩
  obtain ⟨hmin, hpb, hps, hpz, hdl4, hdf⟩ := min_prod hr4 ho
  have HEND : Hid (∀ B A, Chg rows n B (drawnE l rows n) A → B ≤ 1000000 → _) := Lib.hid fun B A hc hB => chg_end hc hB hr4 (by omega) hn4 ho
  have HL := Lib.hid (lives9_any w)
  have HPX := Lib.hid fun W => pick19_any W x 4 hx (by omega) (by omega)
  have HPY := Lib.hid fun W => pick19_any W y 4 hy (by omega) (by omega)
  rw [hxr] at HPX
  rw [hym] at HPY
  have HN := Lib.hid hn
  have HR := Lib.hid hr
  have hm0 : (0 : Int) ≤ (m : Int) := Int.natCast_nonneg _
  have hm1 : (m : Int) ≤ 3 := by omega
  have hp0 : (0 : Int) ≤ (p : Int) := Int.natCast_nonneg _
  have hp1 : (p : Int) ≤ 3 := by omega
  have hnm : (1 : Int) + (m : Int) = (n : Int) := by omega
  have hrp : (1 : Int) + (p : Int) = (rows : Int) := by omega
  have hld : (l.length : Int) ≤ 20 := by omega
  have hld2 : (l2.length : Int) ≤ 20 := by omega
  have hd1 : decide ((20 : Int) < (l.length : Int)) = false := decide_eq_false (by omega)
  have hd2 : decide ((20 : Int) < (l2.length : Int)) = false := decide_eq_false (by omega)
  have HI := Lib.hid h1
  have HI2 := Lib.hid h2
  have HE := Lib.hid hE
  obtain ⟨A, c, rfl, -, -, -⟩ := h1.open_
  obtain ⟨Ay, cy, rfl, -, -, -⟩ := h2.open_
  have HDR : Hid (∀ W, Below w.heap.size w W → _) := Lib.hid fun W hW => drawn_mat rows n HI.out hW (by omega) hn4 hr4
  have HRD := Lib.hid (drawn_rect l rows n)
  have HC0 := Lib.hid (chg_start l rows n)
  obtain ⟨D, hD⟩ : ∃ D, D = drawnE l rows n := ⟨_, rfl⟩
  rw [← hD] at HE HDR HRD HC0 HEND hmin
  have HDF : Hid (∀ y ∈ D, Fits y) := Lib.hid (by rw [hD]; exact drawn_fits l rows n)
  have HMIN := Lib.hid hmin
  have HPB := Lib.hid hpb
  have HPS := Lib.hid hps
  have HPZ := Lib.hid hpz
  have HP0 : Hid (prodN (dia s) 0 = 1) := Lib.hid rfl
  generalize prodN (dia s) = P at *
  generalize s.u = u at *
  generalize s.v = vm at *
  generalize hdd : diagOf s = d at *
  obtain ⟨dl, hdl⟩ : ∃ dl, dl = d.length := ⟨_, rfl⟩
  have HDL := Lib.hid hdl
  rw [← hdl] at HPS HPZ hdl4
  have hr0 : (0 : Int) ≤ (rows : Int) := Int.natCast_nonneg _
  have hn0 : (0 : Int) ≤ (n : Int) := Int.natCast_nonneg _
  have hrb : (rows : Int) ≤ 4 := by omega
  have hnb : (n : Int) ≤ 4 := by omega
  have hr1 : 1 ≤ rows := by omega
  have hn1 : 1 ≤ n := by omega
  have hdlb : (dl : Int) ≤ 4 := by omega
  clear h1 h2 hE hxr hym hn hr hD hmin hpb hps hpz ho hdl hdf hdd
  go_enter Try.func5, Try.ntmps5
  go_wp2_with (first
    | (go_at_call 9; (refine HL.out.mono ?_); rintro e w1 ⟨rfl, hb⟩; have HB := Lib.hid hb; clear hb)
    | (go_at_call 19; (with_reducible refine (HPX.out _).mono ?_); rintro e w' ⟨rfl, rfl⟩)
    | (go_at_call 19; (with_reducible refine (HPY.out _).mono ?_); rintro e w' ⟨rfl, rfl⟩)
    | (go_at_call 20; (refine (HDR.out w1 HB.out).mono ?_); rintro e w2 ⟨A2, c2, bl0, cs0, rfl, HD⟩; have HS := Lib.hid (smith11_own w2 n _ _ (HD.out.1.tab HDF.out) HE.out))
    | (go_at_call 11
       (refine HS.out.mono ?_)
       rintro e w3 ⟨⟨vd, vu, vv, rfl, hd, hu, hv, hsep⟩, hb⟩
       have HSEP := Lib.hid hsep
       have HLT := Lib.hid HD.out.1.lt
       have HSZ := Lib.hid hb.size
       clear hsep
       have HB3 := Lib.hid (HD.out.2.trans (hb.mono HD.out.2.size))
       have HM3 := Lib.hid (HD.out.1.keep hb)
       obtain ⟨Ad, cd, rfl, d1, d2, d3⟩ := id hd.open_
       obtain ⟨Au, cu, rfl, -, -, -⟩ := LAt.open_ hu
       obtain ⟨Av, cv, rfl, -, -, -⟩ := LAt.open_ hv
       have HDI := Lib.hid hd
       rw [← HDL.out] at d1 d3 ⊢
       have HC := Lib.hid d3
       clear hd hu hv hb d3))
  have HMA : Hid (∀ k, 1 ≤ k → k ≤ 4 → ∀ W, Below w3.heap.size w3 W → _) := Lib.hid fun k hk1 hk W hW => min_at (HM3.out.tab HDF.out) HRD.out hr1 hr4 hn4 hk1 hk HC0.out.bd W hW
  go_loopw [14, 15] (fun zp z wr => ∃ k kk : Nat, Hid (kk = k + 1) ∧ k ≤ rows ∧ k ≤ n ∧ k ≤ 4 ∧ z = .int .i64 kk ∧ zp = .int .i64 (P k) ∧ Hid (Below w3.heap.size w3 wr)) (fun _ z _ => rows + 1 - (intOf z).toNat)
  case atStart => exact ⟨0, 1, Lib.hid rfl, by omega, by omega, by omega, rfl, by rw [HP0.out], Lib.hid (Below.refl _ _)⟩
  case round =>
    obtain ⟨k, kk, HK, hkr, hkn, hk4, rfl, rfl, HW⟩ := hrel
    have hkk0 : (0 : Int) ≤ (kk : Int) := Int.natCast_nonneg _
    have hkk5 : (kk : Int) ≤ 5 := by have := HK.out; omega
    by_cases hgo : kk ≤ rows ∧ kk ≤ n
    · obtain ⟨hg1, hg2⟩ := hgo
      have hg1' : (kk : Int) ≤ (rows : Int) := by omega
      have hg2' : (kk : Int) ≤ (n : Int) := by omega
      have hkk4 : kk ≤ 4 := by omega
      have HM := HMA.out kk (by have := HK.out; omega) hkk4 wr HW.out
      rw [HMIN.out kk hkk4] at HM
      have HM := Lib.hid HM
      have hnx := HPB.out kk hkk4
      by_cases hkd : k < dl
      · have hg3 : (kk : Int) ≤ (dl : Int) := by have := HK.out; omega
        obtain ⟨bd, od, rfl, hcd⟩ := HC.out (by omega)
        have hcx := hcd k hkd
        have hcw := (HW.out.cell (p := ⟨bd, od + k, none⟩) (World.block_lt_of_cell? w3 _ hcx)).trans hcx
        have hPk : P k * d.getD k 0 = P kk := by rw [HK.out, HPS.out k hkd]
        have hw1 : IntKind.i64.wrap ((kk : Int) - 1) = (k : Int) := by rw [IntWalk.i64_in _ (by omega)]; have := HK.out; omega
        have hw2 : IntKind.i64.wrap (P kk) = P kk := IntWalk.i64_in _ (by omega)
        have hw3 : wrap64 (P kk) = P kk := by rw [wr_wrap64, wr_in (by omega)]
        have hk0 : (0 : Int) ≤ (k : Int) := Int.natCast_nonneg _
        have hkd' : (k : Int) < (dl : Int) := by omega
        clear hcd hcx
        generalize d.getD k 0 = z at *
        generalize P k = pk at *
        generalize hpk : P kk = pk2 at *
        have hne : (pk2 != pk2) = false := by simp
        go_wp2_with (go_at_call 24; (refine HM.out.mono ?_); rintro e w5 ⟨rfl, HW5⟩)
        go_roundw
        case rel => exact ⟨kk, kk + 1, Lib.hid rfl, by omega, by omega, hkk4, by go_num, by rw [hpk], HW5⟩
        case measure => simp [intOf]; omega
      · have hg3 : decide ((kk : Int) ≤ (dl : Int)) = false := decide_eq_false (by have := HK.out; omega)
        have hg4 : decide (kk ≤ dl) = false := decide_eq_false (by have := HK.out; omega)
        have hPk : P kk = 0 := by rw [HK.out, HPZ.out k (by omega)]
        rw [hPk] at HM
        go_wp2_with (go_at_call 24; (refine HM.out.mono ?_); rintro e w5 ⟨rfl, HW5⟩)
        go_roundw
        case rel => exact ⟨kk, kk + 1, Lib.hid rfl, by omega, by omega, hkk4, by go_num, by rw [hPk], HW5⟩
        case measure => simp [intOf]; omega
    · have hcase : (decide ((kk : Int) ≤ (rows : Int)) = false ∧ decide (kk ≤ rows) = false) ∨ ((kk : Int) ≤ (rows : Int) ∧ decide ((kk : Int) ≤ (n : Int)) = false ∧ decide (kk ≤ n) = false) := by
        by_cases h1 : kk ≤ rows
        · exact .inr ⟨by omega, decide_eq_false (by omega), decide_eq_false (by omega)⟩
        · exact .inl ⟨decide_eq_false (by omega), decide_eq_false (by omega)⟩
      have HM4 : Hid (MatM w.heap.size wr (.slice A2 rows c2) bl0 cs0 D) := Lib.hid (HM3.out.keep HW.out)
      have HB4 := Lib.hid (HB3.out.trans (HW.out.mono HB3.out.size))
      have HD4 : Hid (IntsAt wr (.slice Ad dl cd) d) := Lib.hid (by rw [HDL.out] at *; exact kept_ints.below HDI.out HW.out)
      have HSZW := Lib.hid HW.out.size
      clear HM3 HB3 HW HDI HMA HC hgo HMIN HPB HPS HPZ HP0 HL HPX HPY HDR HE HS HD HB HRD HDF hkr hkn hk4 hkk0 hkk5 HK
      obtain ⟨b0, hb0⟩ : ∃ b0, b0 = w2.heap.size := ⟨_, rfl⟩
      rw [← hb0] at HSEP HLT HSZ
      rw [← HDL.out] at HSEP
      have HSZ4 := Lib.hid (Nat.le_trans HSZ.out HSZW.out)
      have HDK : Hid (∀ W, (∀ p, b0 ≤ p → p < wr.heap.size → W.heap[p]? = wr.heap[p]?) → IntsAt W (.slice Ad dl cd) d) := Lib.hid fun W hW => ints_part HD4.out HSEP.out hW
      have HST : Hid (MinM wr.heap.size b0 w wr (wr.alloc (.cells #[.slice Ay l2.length cy, .int .i64 0] 39)) (.slice A2 rows c2) Ay cy l2.length bl0 cs0 D) := Lib.hid ⟨HM4.out.keep ((Below.refl _ _).alloc (Nat.le_refl _) _), ⟨HLT.out.1, fun r hr => (HLT.out.2 r hr).2⟩, fun p _ hp => Below.heap_alloc wr _ p hp, ⟨HSZ4.out, HB4.out.size⟩, ⟨0, heap_alloc_new wr _, Nat.zero_le _⟩, HB4.out.alloc HB4.out.size _⟩
      clear HM4 HB4 HD4 HSEP HLT HSZ hb0 HSZ4 HSZW
      rcases hcase with ⟨hf1, hf2⟩ | ⟨hf1, hf2, hf3⟩
      all_goals
        go_wp2_with fail
        generalize hb : wr.heap.size = b at *
        generalize wr.alloc (.cells #[.slice Ay l2.length cy, .int .i64 0] 39) = w5 at *
        generalize wr = w4 at *
        have HTK : Hid (∀ (W : World) (nn : Nat), 1 ≤ nn → nn ≤ 1000 → Below w.heap.size w W → (∃ k, BoxAt b W Ay cy l2.length k) → Calls Try.prog 25 #[.pointer (some ⟨b, 0, none⟩), .int .i64 (nn : Int)] W fun e w' => ∃ m k', e = .returned (.int .i64 (m : Nat)) ∧ m < nn ∧ Hid (BoxAt b w' Ay cy l2.length k' ∧ W.grownBy w' (some b))) := Lib.hid fun W nn h1 h2 h3 ⟨k, h4⟩ => take_at HI2.out HST.out.lb.2 h1 h2 W h3 h4
        go_loopw [17] (fun z wr => ∃ t : Nat, t ≤ 5 ∧ z = .int .i64 t ∧ Hid (∃ bl cs A, MinM b b0 w w4 wr (.slice A2 rows c2) Ay cy l2.length bl cs A ∧ Chg rows n (6 * 2 ^ t) D A)) (fun z _ => 5 - (intOf z).toNat)
        case atStart => exact ⟨0, by omega, rfl, Lib.hid ⟨_, _, _, HST.out, by simpa using HC0.out⟩⟩
        case round =>
          obtain ⟨t, ht, rfl, HQ⟩ := hrel
          have ht0 : (0 : Int) ≤ (t : Int) := Int.natCast_nonneg _
          by_cases htl : t < 5
          · have htl' : (t : Int) < 5 := by omega
            obtain ⟨bl, cs, A6, hM, hC⟩ := HQ.out
            have HM := Lib.hid hM
            have HCH := Lib.hid hC
            have H1 := Lib.hid (HTK.out wr rows hr1 (by omega) hM.below hM.box)
            clear hM hC
            have tok1 : True := trivial
            have tok2 : True := trivial
            go_wp2_with (first
              | (have _t := tok1; go_at_call 25; (refine H1.out.mono ?_); rintro e wa ⟨i, ka, rfl, hi, HA1⟩; have HMa := Lib.hid (HM.out.took HA1.out.2 HA1.out.1); have H2 := Lib.hid (HTK.out wa rows hr1 (by omega) HMa.out.below HMa.out.box); clear tok1 _t)
              | (have _t := tok2; go_at_call 25; (refine H2.out.mono ?_); rintro e wb ⟨j, kb, rfl, hj, HA2⟩; have HMb := Lib.hid (HMa.out.took HA2.out.2 HA2.out.1); have H3 := Lib.hid (HTK.out wb 3 (by omega) (by omega) HMb.out.below HMb.out.box); clear tok2 _t))
            refine H3.out.mono ?_
            rintro e wc ⟨κ, kc, rfl, hκ, HA3⟩
            have HMc := Lib.hid (HMb.out.took HA3.out.2 HA3.out.1)
            have hAl : A6.length = rows := HCH.out.rect.1
            have hrl : ∀ p, p < rows → (A6.getD p []).length = n := fun p hp => rect_row HCH.out.rect hp
            have hbd : ∀ p q, -192 ≤ ent A6 p q ∧ ent A6 p q ≤ 192 := fun p q => by
              have h1 := HCH.out.bd p q
              have h2 := pow5 (t := t) ht
              omega
            have HAL := Lib.hid hAl
            have HRL := Lib.hid hrl
            have HBD := Lib.hid hbd
            obtain ⟨g, d0, hv, q1, q2, q3⟩ := HMc.out.mat.row_at (i := i) (by omega)
            obtain ⟨rfl, -, rfl⟩ := Value.slice.inj hv
            obtain ⟨g', d0', hv', q4, q5, -⟩ := HMc.out.mat.row_at (i := j) (by omega)
            obtain rfl : g = g' := by injection hv' with e1; injection e1 with e2; injection e2
            rw [hrl i hi] at q1
            rw [hrl j hj] at q4
            have hi0 : (0 : Int) ≤ (i : Int) := Int.natCast_nonneg _
            have hj0 : (0 : Int) ≤ (j : Int) := Int.natCast_nonneg _
            have hi' : (i : Int) < (rows : Int) := by omega
            have hj' : (j : Int) < (rows : Int) := by omega
            clear hv hv' hAl hrl hbd HA1 HA2 HA3 HM HMa HMb H1 H2 H3 HQ
            obtain rfl | rfl | rfl : κ = 0 ∨ κ = 1 ∨ κ = 2 := by omega
            · have hsw := HMc.out.swap (i := i) (j := j) (g := g) (by rw [HAL.out]; exact hi) (by rw [HAL.out]; exact hj) rfl
              rw [HRL.out i hi, HRL.out j hj] at hsw
              have HSW := Lib.hid hsw
              have HCN := Lib.hid ((HCH.out.swap hi hj).mono (pow_up t))
              clear hsw
              by_cases hij : i = j
              · subst hij
                clear q4 q5
                go_wp2_with fail
                go_region
                go_wp2_with fail
                go_roundw
                case rel => exact ⟨t + 1, by omega, by go_num, Lib.hid ⟨_, _, _, by first | exact HSW.out | exact HSW.out.drewN 1, HCN.out⟩⟩
                case measure => simp [intOf]; omega
              · have hji : j ≠ i := fun e => hij e.symm
                go_wp2_with fail
                go_region
                go_wp2_with fail
                go_roundw
                case rel => exact ⟨t + 1, by omega, by go_num, Lib.hid ⟨_, _, _, by first | exact HSW.out | exact HSW.out.drewN 1, HCN.out⟩⟩
                case measure => simp [intOf]; omega
            · have HMX : Hid (MinM b b0 w w4 wc (.slice (some ⟨g, 0, none⟩) rows c2) Ay cy l2.length bl cs (mixM A6 i i (-2) 0)) := Lib.hid (by rw [mixM_zero HCH.out.rect hi]; exact HMc.out)
              have HCN := Lib.hid ((HCH.out.neg hi).mono (pow_up t))
              clear q1 q2 q4 q5
              go_wp2_with fail
              go_loopw [21] (fun z wr => ∃ q : Nat, q ≤ n ∧ z = .int .i64 q ∧ Hid (MinM b b0 w w4 wr (.slice (some ⟨g, 0, none⟩) rows c2) Ay cy l2.length bl cs (mixM A6 i i (-2) q))) (fun z _ => n - (intOf z).toNat)
              case atStart => exact ⟨0, by omega, rfl, HMX⟩
              case round =>
                obtain ⟨q, hq, rfl, HMQ⟩ := hrel
                have hq0 : (0 : Int) ≤ (q : Int) := Int.natCast_nonneg _
                have hxl : (mixM A6 i i (-2) q).length = rows := by rw [mixM_length, HAL.out]
                by_cases hql : q < n
                · have hql' : (q : Int) < (n : Int) := by omega
                  have hrl2 : ((mixM A6 i i (-2) q).getD i []).length = n := by rw [mixM_row HCH.out.rect hi hi]; exact HRL.out i hi
                  obtain ⟨g2, d2, hv2, r1, r2, -⟩ := HMQ.out.mat.row_at (i := i) (by rw [hxl]; exact hi)
                  obtain rfl : g = g2 := by injection hv2 with e1; injection e1 with e2; injection e2
                  rw [hrl2] at r1
                  obtain ⟨r3, r4⟩ := HMQ.out.mat.ent_at (i := i) (j := q) (by rw [hxl]; exact hi) (by rw [hrl2]; exact hql)
                  rw [mixM_ent HCH.out.rect hi hi] at r3
                  have hput := HMQ.out.put (i := i) (j := q) (by rw [hxl]; exact hi) (by rw [hrl2]; exact hql) (ent A6 i q + -2 * ent A6 i q)
                  rw [put_mixM HCH.out.rect hi hi hql, show ent A6 i q + -2 * ent A6 i q = -(ent A6 i q) by omega] at hput
                  have HPUT := Lib.hid hput
                  have hbz := HBD.out i q
                  have hcs : n ≤ cs i := by
                    have := (HMQ.out.mat.row i (by rw [hxl]; exact hi)).2.2.1
                    rwa [hrl2] at this
                  clear hput hv2 hrl2 hxl
                  generalize ent A6 i q = z at *
                  have hwz : IntKind.i64.wrap (-z) = -z := IntWalk.i64_in _ (by omega)
                  go_wp2_with fail
                  go_region
                  go_wp2_with fail
                  go_roundw
                  case rel => exact ⟨q + 1, by omega, by go_num, Lib.hid (by first | exact HPUT.out | exact HPUT.out.drewN 1)⟩
                  case measure => simp [intOf]; omega
                · obtain rfl : q = n := by omega
                  have HFU : Hid (MinM b b0 w w4 wr (.slice (some ⟨g, 0, none⟩) rows c2) Ay cy l2.length bl cs (Sm.addR A6 i i (-2))) := Lib.hid (by have := HMQ.out; rw [mixM_full HCH.out.rect hi hi (Nat.le_refl _)] at this; exact this)
                  clear hxl
                  go_wp2_with fail
                  go_roundw
                  case rel => exact ⟨t + 1, by omega, by go_num, Lib.hid ⟨_, _, _, by first | exact HFU.out | exact HFU.out.drewN 1, HCN.out⟩⟩
                  case measure => simp [intOf]; omega
            · by_cases hij : i = j
              · subst hij
                have hd3 : ((i : Int) != (i : Int)) = false := by simp
                have HCN := Lib.hid (HCH.out.mono (pow_up t))
                clear q1 q2 q4 q5
                go_wp2_with fail
                go_roundw
                case rel => exact ⟨t + 1, by omega, by go_num, Lib.hid ⟨_, _, _, by first | exact HMc.out | exact HMc.out.drewN 1, HCN.out⟩⟩
                case measure => simp [intOf]; omega
              · have hd3 : ((i : Int) != (j : Int)) = true := by simp; omega
                have HMX : Hid (MinM b b0 w w4 wc (.slice (some ⟨g, 0, none⟩) rows c2) Ay cy l2.length bl cs (mixM A6 i j 1 0)) := Lib.hid (by rw [mixM_zero HCH.out.rect hi]; exact HMc.out)
                have HCN := Lib.hid (HCH.out.add hi hj hij)
                rw [pow_step t] at HCN
                clear q1 q2 q4 q5 hij
                go_wp2_with fail
                go_loopw [22] (fun z wr => ∃ q : Nat, q ≤ n ∧ z = .int .i64 q ∧ Hid (MinM b b0 w w4 wr (.slice (some ⟨g, 0, none⟩) rows c2) Ay cy l2.length bl cs (mixM A6 i j 1 q))) (fun z _ => n - (intOf z).toNat)
                case atStart => exact ⟨0, by omega, rfl, HMX⟩
                case round =>
                  obtain ⟨q, hq, rfl, HMQ⟩ := hrel
                  have hq0 : (0 : Int) ≤ (q : Int) := Int.natCast_nonneg _
                  have hxl : (mixM A6 i j 1 q).length = rows := by rw [mixM_length, HAL.out]
                  by_cases hql : q < n
                  · have hql' : (q : Int) < (n : Int) := by omega
                    have hrl2 : ((mixM A6 i j 1 q).getD i []).length = n := by rw [mixM_row HCH.out.rect hi hj]; exact HRL.out i hi
                    have hrl3 : ((mixM A6 i j 1 q).getD j []).length = n := by rw [mixM_row HCH.out.rect hi hj]; exact HRL.out j hj
                    obtain ⟨g2, d2, hv2, r1, r2, -⟩ := HMQ.out.mat.row_at (i := i) (by rw [hxl]; exact hi)
                    obtain rfl : g = g2 := by injection hv2 with e1; injection e1 with e2; injection e2
                    obtain ⟨g3, d3, hv3, r5, -, -⟩ := HMQ.out.mat.row_at (i := j) (by rw [hxl]; exact hj)
                    obtain rfl : g = g3 := by injection hv3 with e1; injection e1 with e2; injection e2
                    rw [hrl2] at r1
                    rw [hrl3] at r5
                    obtain ⟨r3, r4⟩ := HMQ.out.mat.ent_at (i := i) (j := q) (by rw [hxl]; exact hi) (by rw [hrl2]; exact hql)
                    obtain ⟨r6, -⟩ := HMQ.out.mat.ent_at (i := j) (j := q) (by rw [hxl]; exact hj) (by rw [hrl3]; exact hql)
                    rw [mixM_ent HCH.out.rect hi hj] at r3 r6
                    have hput := HMQ.out.put (i := i) (j := q) (by rw [hxl]; exact hi) (by rw [hrl2]; exact hql) (ent A6 i q + 1 * ent A6 j q)
                    rw [put_mixM HCH.out.rect hi hj hql, Int.one_mul] at hput
                    have HPUT := Lib.hid hput
                    have hbz := HBD.out i q
                    have hbz2 := HBD.out j q
                    clear hput hv2 hv3 hrl2 hrl3 hxl
                    generalize ent A6 i q = z at *
                    generalize ent A6 j q = z2 at *
                    have hwz : IntKind.i64.wrap (z + z2) = z + z2 := IntWalk.i64_in _ (by omega)
                    have hwz2 : wrap64 (z + z2) = z + z2 := by rw [wr_wrap64, wr_in (by omega)]
                    go_wp2_with fail
                    go_region
                    go_wp2_with fail
                    go_roundw
                    case rel => exact ⟨q + 1, by omega, by go_num, Lib.hid (by first | exact HPUT.out | exact HPUT.out.drewN 1)⟩
                    case measure => simp [intOf]; omega
                  · obtain rfl : q = n := by omega
                    have HFU : Hid (MinM b b0 w w4 wr (.slice (some ⟨g, 0, none⟩) rows c2) Ay cy l2.length bl cs (Sm.addR A6 i j 1)) := Lib.hid (by have := HMQ.out; rw [mixM_full HCH.out.rect hi hj (Nat.le_refl _)] at this; exact this)
                    clear hxl
                    go_wp2_with fail
                    go_roundw
                    case rel => exact ⟨t + 1, by omega, by go_num, Lib.hid ⟨_, _, _, by first | exact HFU.out | exact HFU.out.drewN 1, HCN.out⟩⟩
                    case measure => simp [intOf]; omega
          · obtain rfl : t = 5 := by omega
            obtain ⟨bl, cs, A6, hM, hC⟩ := HQ.out
            have htab : Tab wr (.slice A2 rows c2) A6 := hM.mat.tab (fits_mat fun i j => by have := hC.bd i j; omega)
            have hdi : IntsAt wr (.slice Ad dl cd) d := HDK.out wr fun p hp hpb => hM.keep p hp hpb
            have HDI := Lib.hid hdi
            have HB6 := Lib.hid hM.below
            have hend := HEND.out _ A6 hC (by decide)
            clear hM hC hdi HQ HTK HST HDK HC0 HEND
            rcases hend with hE6 | ⟨u6, v6, hE6⟩
            · have HS6 := Lib.hid (smith11_any wr n _ _ htab hE6)
              clear htab hE6
              go_wp2_with (go_at_call 11; (refine HS6.out.mono ?_); rintro e w7 ⟨⟨vd, vu, vv, rfl, hd, hu, hv⟩, hb⟩; obtain ⟨Ad7, cd7, rfl, -, -, -⟩ := id hd.open_; obtain ⟨Au7, cu7, rfl, -, -, -⟩ := LAt.open_ hu; obtain ⟨Av7, cv7, rfl, -, -, -⟩ := LAt.open_ hv; have HB7 := Lib.hid (HB6.out.trans (hb.mono HB6.out.size)); clear hd hu hv hb)
              go_ret
              exact ⟨rfl, HB7.out⟩
            · have HS6 := Lib.hid (smith11_any wr n _ _ htab hE6)
              clear htab hE6
              go_wp2_with (first
                | (go_at_call 11; (refine HS6.out.mono ?_); rintro e w7 ⟨⟨vd, vu, vv, rfl, hd, hu, hv⟩, hb⟩; obtain ⟨Ad7, cd7, rfl, -, -, -⟩ := id hd.open_; obtain ⟨Au7, cu7, rfl, -, -, -⟩ := LAt.open_ hu; obtain ⟨Av7, cv7, rfl, -, -, -⟩ := LAt.open_ hv; have HB7 := Lib.hid (HB6.out.trans (hb.mono HB6.out.size)); have hsm := same17_any w7 _ _ d d hd (kept_ints.below HDI.out hb); rw [decide_eq_true rfl] at hsm; have HSM := Lib.hid hsm; clear hd hu hv hb hsm)
                | (go_at_call 17; (refine HSM.out.mono ?_); rintro e w8 ⟨rfl, q8, rfl⟩))
              go_ret
              exact ⟨rfl, below_drewN HB7.out _⟩
end Go.Proofs
namespace Go.Proofs
open Go.RowKit Go.Shelf Go.Proofs.Sm
theorem minors5_any (w : World) (v1 v2 : Value) (l1 l2 : List Int) (x y : Int) (h1 : IntsAt w v1 l1) (h2 : IntsAt w v2 l2) (hx : In64 x) (hy : In64 y) : Calls Try.prog 5 #[v1, v2, .int .i64 x, .int .i64 y] w (YesPost w) := by
  by_cases hl : 20 < l1.length ∨ 20 < l2.length
  · exact minors_long w v1 v2 l1 l2 x y h1 h2 hl
  · obtain ⟨p, hp, hp3⟩ := picks4 x
    obtain ⟨m, hm, hm3⟩ := picks4 y
    have hv := drawn_valid l1 (p + 1) (m + 1)
    have hc := check_ok (n := m + 1) (by omega) (by omega) (by rw [drawnE_length]; omega) hv
    obtain ⟨o, ho⟩ := out_ex hv
    cases o with
    | none => exact minors_five w v1 v2 l1 l2 x y h1 h2 hx hy (by omega) (by omega) (p + 1) (m + 1) p m hp hm rfl rfl (by omega) (by omega) (.inr ⟨hc, .inl ⟨by rw [Int.toNat_natCast]; exact ho, rfl, rfl, rfl, rfl⟩⟩)
    | some s => exact minors_some w v1 v2 l1 l2 x y h1 h2 hx hy (by omega) (by omega) (p + 1) (m + 1) p m hp hm rfl rfl (by omega) (by omega) s ho
end Go.Proofs
namespace Go.Proofs
open Go.RowKit Go.ChangeShapes Go.WideShapes Go.ChangeAt Go.Deep
section
variable {H : Type} {enc : TypeId × Value → H} {W : World}
theorem spot_none {a : Addr} {v : Value} (h : W.cell? (a.add 0) = some v) : a = ⟨a.block, a.off, none⟩ := by
  obtain ⟨b, o, s⟩ := a
  cases s with
  | none => rfl
  | some q =>
    exfalso
    have e : ({ block := b, off := o, spot := some q } : Addr).add 0 = { block := b, off := o, spot := some q } := by unfold Addr.add; rw [if_pos rfl]
    rw [e] at h
    unfold World.cell? at h
    simp only [Option.isSome_some, if_true] at h
    split at h <;> cases h
theorem wf_fits {x : Int} (h : (Lit.int .i64 x).wf = true) : -9223372036854775808 ≤ x ∧ x ≤ 9223372036854775807 := by
  simpa [Lit.wf, IntKind.min, IntKind.max, IntKind.signed, IntKind.bits] using h
theorem lat_of_trod {α : Type} {R : World → Value → α → Prop} {d : α} {t e : TypeId} {base fuel : Nat} {spare : Nat → Bool} {held : Bool} {v : Value} {x : DataW H × List MemPlace} (ht : Try.prog.underlying t = some (.slice e)) (hc : Try.prog.cellsOf e = 1)
    (hR : ∀ n u y, DataW.trod enc Try.prog W base spare held n e [u] = some y → ∃ z, R W u z) (h : DataW.trod enc Try.prog W base spare held fuel t [v] = some x) : ∃ xs, LAt R d W v xs := by
  rcases open_slice1 ht hc h with ⟨hv, -⟩ | ⟨a, len, cap, m, n, V, D, Pl, hv, -, hl, hm, hmm, -, hx⟩
  · obtain rfl : v = .slice none 0 0 := by simpa using hv
    exact ⟨[], [], ⟨none, 0, 0, rfl, rfl, Nat.le_refl _, by simp [maxLen], fun h => absurd h (by simp)⟩, rfl, fun i hi => absurd hi (by simp)⟩
  · obtain rfl : v = .slice (some a) len cap := by simpa using hv
    have hlm : len ≤ m := by rw [hmm]; split <;> omega
    have hz : ∀ i, i < len → ∃ z, R W (V i) z := fun i hi => hR n (V i) _ (hx i (by omega)).2
    have hf : ∃ f : Nat → α, ∀ i, i < len → R W (V i) (f i) := by
      have hz' : ∀ i, ∃ z, i < len → R W (V i) z := fun i => by
        by_cases hi : i < len
        · obtain ⟨z, hz⟩ := hz i hi; exact ⟨z, fun _ => hz⟩
        · exact ⟨d, fun h => absurd h hi⟩
      exact ⟨fun i => Classical.choose (hz' i), fun i => Classical.choose_spec (hz' i)⟩
    obtain ⟨f, hf⟩ := hf
    refine ⟨(List.range len).map f, (List.range len).map V, ⟨_, len, cap, rfl, by simp, hl, hm, fun h0 => ?_⟩, by simp, fun i hi => ?_⟩
    · have hsp := spot_none (hx 0 (by omega)).1
      refine ⟨a.block, a.off, by rw [← hsp], fun j u hu => ?_⟩
      have hj : j < len := by have := (List.getElem?_eq_some_iff.1 hu).1; simpa using this
      have := (hx j (by omega)).1
      rw [hsp, Addr.add_lit] at this
      rw [this, ← hu]
      simp [List.getElem?_range hj]
    · have hi' : i < len := by simpa using hi
      refine ⟨V i, by simp [List.getElem?_range hi'], ?_⟩
      have : ((List.range len).map f).getD i d = f i := by simp [List.getD_eq_getElem?_getD, List.getElem?_range hi']
      rw [this]
      exact hf i hi'
theorem intsT_of_trod {t : TypeId} (ht : Try.prog.underlying t = some (.slice 3)) {base fuel : Nat} {spare : Nat → Bool} {held : Bool} {v : Value} {x : DataW H × List MemPlace} (h : DataW.trod enc Try.prog W base spare held fuel t [v] = some x) : ∃ xs, IntsAt W v xs := by
  obtain ⟨xs, vs, hS, hl, he⟩ := lat_of_trod (R := fun _ u z => u = .int .i64 z ∧ (Lit.int .i64 z).wf = true) (d := 0) ht (by kernel_rfl) (fun n u y hy => by
    obtain ⟨m, hu, -, hw⟩ := DataW.trod_int Try.underlying3 hy
    exact ⟨m, by simpa using hu, hw⟩) h
  have hvs : vs = ints xs := by
    apply List.ext_getElem (by simpa [ints] using hl)
    intro i h1 h2
    obtain ⟨u, hu, rfl, -⟩ := he i (by omega)
    have hi : i < xs.length := by omega
    rw [List.getElem?_eq_getElem h1] at hu
    rw [Option.some.inj hu]
    simp [ints, List.getD_eq_getElem?_getD, hi]
  refine ⟨xs, hvs ▸ hS, fun z hz => ?_⟩
  obtain ⟨i, hi, rfl⟩ := List.getElem_of_mem hz
  obtain ⟨u, -, -, hw⟩ := he i hi
  have e : xs.getD i 0 = xs[i] := by simp [List.getD_eq_getElem?_getD, hi]
  rw [e] at hw
  exact wf_fits hw
theorem ints_of_trod {base fuel : Nat} {spare : Nat → Bool} {held : Bool} {v : Value} {x : DataW H × List MemPlace} (h : DataW.trod enc Try.prog W base spare held fuel 25 [v] = some x) : ∃ xs, IntsAt W v xs := intsT_of_trod Try.underlying25 h
end
end Go.Proofs
