/- The reference's rewrite of a system; The reference's Rewrite; The law of chapter 21: vast, equal, same; The law of chapter 21: same, half, awake; The walk of RewriteTables; Arguments opened: lists of numbers, tables, presentations. -/
import Derived.Test.YtcfighimnkfmeaaF10
import Derived.Test.YtcfighimnkfmeaaF1
import Derived.ProofKit
import Derived.Deep.Slices
import Derived.Deep.Strs
namespace Go.Proofs
open Go.RowKit Go.Shelf Go.Proofs.Ct Go.Maps

theorem Tab.at2 {w : World} {A : Option Addr} {n c : Nat} {t : Tb} (h : Tab w (.slice A n c) t) {r k : Nat} (hr : r < t.length) (hk : k < (t.row r).length) : ∃ b o, A = some ⟨b, o, none⟩ ∧ n = t.length ∧ ∃ bu ou cu, w.cell? ⟨b, o + r, none⟩ = some (.slice (some ⟨bu, ou, none⟩) (t.row r).length cu) ∧ w.cell? ⟨bu, ou + k, none⟩ = some (.int .i64 (t.at r k)) := by
  obtain ⟨A', c', e, h1, h2, h3⟩ := h.open_
  obtain ⟨rfl, rfl, rfl⟩ := Value.slice.inj e
  obtain ⟨b, o, rfl, h4⟩ := h3 (by omega)
  obtain ⟨u, hu, hI⟩ := h4 r hr
  have hI2 : IntsAt w u (t.row r) := hI
  obtain ⟨Au, cu, rfl, u1, u2, u3⟩ := hI2.open_
  obtain ⟨bu, ou, rfl, u4⟩ := u3 (by omega)
  exact ⟨b, o, rfl, rfl, bu, ou, cu, hu, u4 k hk⟩

/-- the list under way -/
def ListSt (w0 wr : World) (so : Value) (X : List Int) : Prop := OwnI w0.heap.size wr so X ∧ Below w0.heap.size w0 wr
theorem ListSt.push {w0 wr : World} {A : Option Addr} {n c : Nat} {X : List Int} (h : ListSt w0 wr (.slice A n c) X) (hn : n = X.length) (z : Int) (hX : X.length ≤ 1000000) :
    ∃ A' c' w', (Builtin.append_ #[25, 25] 25 #[.slice A n c, .slice (some ⟨wr.heap.size, 0, none⟩) 1 1]).run Try.prog (wr.alloc (.cells #[.int .i64 z] 3)) = .ok (.slice A' (n + 1) c') w' ∧ ListSt w0 w' (.slice A' (n + 1) c') (X ++ [z]) := by
  subst hn
  obtain ⟨A', c', w', hr, ho, hg, -⟩ := push_int 25 25 Try.underlying25 wr w0.heap.size _ X h.1 z (by omega) h.2.size
  exact ⟨A', c', w', hr, ho, h.2.grown hg h.2.size (fun k hk => (owns_block h.1 k hk).1)⟩
theorem stepW_pos (t : Tb) (r j : Nat) : stepW t r ((j : Int) + 1) = (t.at r (2 * j)).toNat := by
  unfold stepW
  rw [if_pos (by omega), show (2 * ((j : Int) + 1) - 2).toNat = 2 * j by omega]
theorem stepW_neg (t : Tb) (r j : Nat) : stepW t r (-((j : Int) + 1)) = (t.at r (2 * j + 1)).toNat := by
  unfold stepW
  rw [if_neg (by omega), show (-2 * (-((j : Int) + 1)) - 1).toNat = 2 * j + 1 by omega]
theorem letN_pos (t : Tb) (R : List W) (g r j : Nat) : letN t R g r ((j : Int) + 1) = number t R g r j := by
  unfold letN
  rw [if_pos (by omega), show ((j : Int) + 1 - 1).toNat = j by omega]
theorem letN_neg (t : Tb) (R : List W) (g r j : Nat) : letN t R g r (-((j : Int) + 1)) = -number t R g (stepW t r (-((j : Int) + 1))) j := by
  unfold letN
  rw [if_neg (by omega), show (-(-((j : Int) + 1)) - 1).toNat = j by omega]

set_option maxRecDepth 100000 in
set_option maxHeartbeats 4000000 in
theorem rewrite77_any (w : World) (vt vr vn v : Value) (m : Int) (g : Nat) (t : Tb) (R : List W) (r : Nat) (ws : List Int) (hS : SysR w vt vr vn t R (numsTo t R g t.length)) (hg : TGood g t) (hs : Std t) (hr : r < t.length)
    (hw : IntsAt w v ws) (hl : LetsOk g ws) (hlen : ws.length ≤ 100000) :
    Calls Try.prog 77 #[.agg #[.int .i64 (g : Int), vt, vr, vn, .int .i64 m], .int .i64 (r : Int), v] w (RwPost w (rwW t R g r ws)) := by
  obtain ⟨At, ct, rfl⟩ := Tab.form hS.tab
  obtain ⟨Ar, cr, rfl⟩ := Tab.form hS.reps
  obtain ⟨An, cn, rfl⟩ := Tab.form hS.nums
  obtain ⟨Aw, cw, rfl, hw1, hw2, hw3⟩ := hw.open_
  have hnew := heap_alloc_new w (.cells #[.int .i64 (g : Int), .slice At t.length ct, .slice Ar R.length cr, .slice An (numsTo t R g t.length).length cn, .int .i64 m] 99)
  have hbel : Below w.heap.size w (w.alloc (.cells #[.int .i64 (g : Int), .slice At t.length ct, .slice Ar R.length cr, .slice An (numsTo t R g t.length).length cn, .int .i64 m] 99)) := (Below.refl _ _).alloc (Nat.le_refl _) _
  have hsz : (w.alloc (.cells #[.int .i64 (g : Int), .slice At t.length ct, .slice Ar R.length cr, .slice An (numsTo t R g t.length).length cn, .int .i64 m] 99)).heap.size = w.heap.size + 1 := by simp
  have HNEW := Lib.hid hnew
  have HSY := Lib.hid hS
  have HG := Lib.hid hg
  have HSD := Lib.hid hs
  have HW3 := Lib.hid hw3
  have HL := Lib.hid hl
  have HSZ := Lib.hid hsz
  have HBE := Lib.hid hbel
  have HR := Lib.hid hr
  have HLN : Hid ((numsTo t R g t.length).length = t.length) := Lib.hid (length_numsTo _ _ _ _)
  have hg16 := hg.g16
  have hn2 := hg.n2
  have HRED : Hid (∀ (W : World) (u : Value), IntsAt W u (rwTo t R g ws r ws.length).2 → Calls Try.prog 120 #[u] W (RedPost (rwTo t R g ws r ws.length).2 W)) := Lib.hid fun W u hu =>
    reduce120_any W u _ hu (rwTo_mild hg hs R hl hr ws.length (Nat.le_refl _)) (by have := rwTo_len t R g ws r ws.length; omega)
  have HFT : Hid (Fits (rwTo t R g ws r ws.length).2) := Lib.hid (Mild.fits (rwTo_mild hg hs R hl hr ws.length (Nat.le_refl _)))
  have HRE : Hid (rwW t R g r ws = red (rwTo t R g ws r ws.length).2) := Lib.hid rfl
  generalize (numsTo t R g t.length).length = nn at *
  have hws0 : (0 : Int) ≤ (ws.length : Int) := Int.natCast_nonneg _
  clear hnew hbel hsz hS hg hs hw3 hl hr hw
  generalize hw0 : w.alloc (.cells #[.int .i64 (g : Int), .slice At t.length ct, .slice Ar R.length cr, .slice An nn cn, .int .i64 m] 99) = w0 at *
  have HW0 := Lib.hid hw0
  clear hw0
  go_enter Try.func77, Try.ntmps77
  go_wp2_with fail
  rw [HW0.out]
  go_loopw [1, 7, 8] (fun ra so i wr => ∃ k n : Nat, i = .int .i64 k ∧ k ≤ ws.length ∧ n ≤ k ∧ Hid (n = (rwTo t R g ws r k).2.length) ∧ Hid (ra = .int .i64 (runTo t ws r k : Int)) ∧ ∃ A c, so = .slice A n c ∧ Hid (ListSt w0 wr so (rwTo t R g ws r k).2)) (fun _ _ i _ => ws.length - (intOf i).toNat)
  case atStart => exact ⟨0, 0, rfl, by omega, by omega, Lib.hid rfl, Lib.hid rfl, none, 0, rfl, Lib.hid ⟨World.ownsRow_nil _ _ _ _, Below.refl _ _⟩⟩
  case round =>
    obtain ⟨k, n, rfl, hk, hnk, HN, HRA, A, c, rfl, HST⟩ := hrel
    have hra := HRA.out
    subst hra
    clear HRA
    have hk0 : (0 : Int) ≤ (k : Int) := Int.natCast_nonneg _
    by_cases hlt : k < ws.length
    · have hlt' : (k : Int) < (ws.length : Int) := by omega
      obtain ⟨bw, ow, rfl, hcc⟩ := HW3.out (by omega)
      have hck := hcc k hlt
      have hB := HBE.out.trans (HST.out.2.mono HBE.out.size)
      have hkeep : ∀ {b o : Nat} {u : Value}, w.cell? ⟨b, o, none⟩ = some u → wr.cell? ⟨b, o, none⟩ = some u := fun {b o u} h => (hB.cell (p := ⟨b, o, none⟩) (World.block_lt_of_cell? w _ h)).trans h
      have hck' := hkeep hck
      obtain ⟨p0, p1, p2, p3, p4⟩ := box_cells5 ((HST.out.2.block w.heap.size (by have := HSZ.out; omega)).trans HNEW.out)
      have hrk := runTo_lt HG.out HSD.out HL.out HR.out k (by omega)
      have hx := HL.out.at_ hlt
      have HSUCC := Lib.hid (rwTo_succ t R g ws r k)
      have HRUN : Hid (runTo t ws r (k + 1) = stepW t (runTo t ws r k) (ws.getD k 0)) := Lib.hid rfl
      have hrl := HG.out.len _ hrk
      have hr0 : (0 : Int) ≤ (runTo t ws r k : Int) := Int.natCast_nonneg _
      have hr1 : (runTo t ws r k : Int) < (t.length : Int) := by omega
      have hr2 : (runTo t ws r k : Int) < (nn : Int) := by have := HLN.out; omega
      obtain ⟨cc, hc1, hc2, hc3, hc4⟩ := stepW_at HG.out HSD.out hrk hx
      have HXL : Hid ((rwTo t R g ws r k).2.length ≤ 1000000) := Lib.hid (by have := rwTo_len t R g ws r k; omega)
      clear hcc hck hc2
      generalize hxe1 : rwTo t R g ws r (k + 1) = X' at *
      have HXE := Lib.hid hxe1
      clear hxe1
      generalize rwTo t R g ws r k = X2 at *
      generalize hrn1 : runTo t ws r (k + 1) = rn at *
      have HRNE := Lib.hid hrn1
      clear hrn1
      generalize runTo t ws r k = rk at *
      generalize ws.getD k 0 = x at *
      obtain ⟨hx1, hx2, hx3⟩ := hx
      by_cases hp : 0 < x
      · obtain ⟨j, rfl⟩ : ∃ j : Nat, x = (j : Int) + 1 := ⟨(x - 1).toNat, by omega⟩
        have hjg : j < g := by omega
        obtain ⟨bn, on, rfl, -, bu, ou, cu, hu1, hu2⟩ := Tab.at2 HSY.out.nums (r := rk) (k := j) (by rw [length_numsTo]; exact hrk) (by unfold Tb.row; rw [numsTo_get hrk, length_rowL]; exact hjg)
        have ha2 : Tb.at (numsTo t R g t.length) rk j = number t R g rk j := by
          unfold Tb.at Tb.row; rw [numsTo_get hrk]; exact rowL_get hjg hjg
        have hl2 : (Tb.row (numsTo t R g t.length) rk).length = g := by unfold Tb.row; rw [numsTo_get hrk, length_rowL]
        rw [ha2] at hu2
        rw [hl2] at hu1
        obtain ⟨bt, ot, rfl, -, bv, ov, cv, hv1, hv2⟩ := Tab.at2 HSY.out.tab (r := rk) (k := 2 * j) hrk (by rw [hrl]; omega)
        have hpos := HSD.out.pos rk hrk (2 * j) (by rw [hrl]; omega)
        have hst : t.at rk (2 * j) = (stepW t rk ((j : Int) + 1) : Int) := by rw [stepW_pos]; omega
        rw [hst] at hv2
        rw [hrl] at hv1
        have HCE : Hid (∀ W, Below w0.heap.size w0 W → (W.cell? ⟨w.heap.size, 1, none⟩ = some (.slice (some ⟨bt, ot, none⟩) t.length ct) ∧ W.cell? ⟨w.heap.size, 3, none⟩ = some (.slice (some ⟨bn, on, none⟩) nn cn) ∧
            W.cell? ⟨bn, on + rk, none⟩ = some (.slice (some ⟨bu, ou, none⟩) g cu) ∧ W.cell? ⟨bu, ou + j, none⟩ = some (.int .i64 (number t R g rk j)) ∧ W.cell? ⟨bt, ot + rk, none⟩ = some (.slice (some ⟨bv, ov, none⟩) (2 * g) cv) ∧ W.cell? ⟨bv, ov + 2 * j, none⟩ = some (.int .i64 (stepW t rk ((j : Int) + 1) : Int)))) := Lib.hid fun W hW => by
          have hk1 : ∀ {b o : Nat} {u : Value}, w.cell? ⟨b, o, none⟩ = some u → W.cell? ⟨b, o, none⟩ = some u := fun {b o u} h => ((HBE.out.trans (hW.mono HBE.out.size)).cell (p := ⟨b, o, none⟩) (World.block_lt_of_cell? w _ h)).trans h
          obtain ⟨q0, q1, q2, q3, q4⟩ := box_cells5 ((hW.block w.heap.size (by have := HSZ.out; omega)).trans HNEW.out)
          exact ⟨q1, q3, hk1 hu1, hk1 hu2, hk1 hv1, hk1 hv2⟩
        obtain ⟨z1, z3, hu1', hu2', hv1', hv2'⟩ := HCE.out wr HST.out.2
        rw [letN_pos] at HSUCC
        have hj0 : (0 : Int) ≤ (j : Int) := Int.natCast_nonneg _
        have hj1 : (j : Int) < (g : Int) := by omega
        have hj2 : (j : Int) ≤ 16 := by omega
        have hq0 : 2 * ((j : Int) + 1) - 2 = ((2 * j : Nat) : Int) := by omega
        have hq1 : ((2 * j : Nat) : Int) < ((2 * g : Nat) : Int) := by omega
        have hq2 : (0 : Int) ≤ ((2 * j : Nat) : Int) := by omega
        have hnb := number_bd t R g rk j
        have hnb2 : number t R g rk j ≤ 400000 := by
          have h3 : rk * g ≤ 20000 * 16 := Nat.mul_le_mul (by omega) hg16
          omega
        have hnb1 := hnb.1
        clear hB hkeep hu1 hu2 hv1 hv2 ha2 hl2 hpos hst hrl hc1 hc3 hnb p0 p1 p2 p3 p4
        generalize stepW t rk ((j : Int) + 1) = s at *
        generalize number t R g rk j = N at *
        generalize 2 * j = g2 at *
        generalize 2 * g = gg at *
        by_cases hN : 0 < N
        · have HX : Hid (X'.2 = X2.2 ++ [N]) := Lib.hid (by rw [HSUCC.out, if_pos (by omega)])
          obtain ⟨A', c', w', hrun, hls⟩ := HST.out.push HN.out N HXL.out
          have HAPP := Lib.hid hrun
          have HLS := Lib.hid hls
          have HN2 : Hid (n + 1 = X'.2.length) := Lib.hid (by rw [HX.out, List.length_append, ← HN.out]; rfl)
          obtain ⟨y1, y3, -, -, y5, y6⟩ := HCE.out w' hls.2
          clear hrun hls
          go_wp2_with ((with_reducible refine wpList_sel 38 ?_); refine wpList_val rfl (r_app (.tmp 35) (.tmp 37) 25 rfl rfl rfl HAPP.out) ?_)
          go_roundw
          case rel => exact ⟨k + 1, n + 1, by go_num, by omega, by omega, by rw [HXE.out]; exact HN2, Lib.hid (by rw [HRNE.out, HRUN.out]), A', c', rfl, by rw [HXE.out, HX.out]; exact HLS⟩
          case measure => simp [intOf]; omega
        · have HX : Hid (X'.2 = X2.2) := Lib.hid (by rw [HSUCC.out, if_neg (by omega)])
          have HN2 : Hid (n = X'.2.length) := Lib.hid (by rw [HX.out]; exact HN.out)
          go_wp2_with fail
          go_roundw
          case rel => exact ⟨k + 1, n, by go_num, by omega, by omega, by rw [HXE.out]; exact HN2, Lib.hid (by rw [HRNE.out, HRUN.out]), A, c, rfl, by rw [HXE.out, HX.out]; exact HST⟩
          case measure => simp [intOf]; omega
      · obtain ⟨j, rfl⟩ : ∃ j : Nat, x = -((j : Int) + 1) := ⟨(-x - 1).toNat, by omega⟩
        have hjg : j < g := by omega
        obtain ⟨bt, ot, rfl, -, bv, ov, cv, hv1, hv2⟩ := Tab.at2 HSY.out.tab (r := rk) (k := 2 * j + 1) hrk (by rw [hrl]; omega)
        have hpos := HSD.out.pos rk hrk (2 * j + 1) (by rw [hrl]; omega)
        have hst : t.at rk (2 * j + 1) = (stepW t rk (-((j : Int) + 1)) : Int) := by rw [stepW_neg]; omega
        rw [hst] at hv2
        rw [hrl] at hv1
        rw [letN_neg] at HSUCC
        generalize stepW t rk (-((j : Int) + 1)) = s at *
        obtain ⟨bn, on, rfl, -, bu, ou, cu, hu1, hu2⟩ := Tab.at2 HSY.out.nums (r := s) (k := j) (by rw [length_numsTo]; exact hc4) (by unfold Tb.row; rw [numsTo_get hc4, length_rowL]; exact hjg)
        have ha2 : Tb.at (numsTo t R g t.length) s j = number t R g s j := by
          unfold Tb.at Tb.row; rw [numsTo_get hc4]; exact rowL_get hjg hjg
        have hl2 : (Tb.row (numsTo t R g t.length) s).length = g := by unfold Tb.row; rw [numsTo_get hc4, length_rowL]
        rw [ha2] at hu2
        rw [hl2] at hu1
        have HCE : Hid (∀ W, Below w0.heap.size w0 W → (W.cell? ⟨w.heap.size, 1, none⟩ = some (.slice (some ⟨bt, ot, none⟩) t.length ct) ∧ W.cell? ⟨w.heap.size, 3, none⟩ = some (.slice (some ⟨bn, on, none⟩) nn cn) ∧
            W.cell? ⟨bn, on + s, none⟩ = some (.slice (some ⟨bu, ou, none⟩) g cu) ∧ W.cell? ⟨bu, ou + j, none⟩ = some (.int .i64 (number t R g s j)) ∧ W.cell? ⟨bt, ot + rk, none⟩ = some (.slice (some ⟨bv, ov, none⟩) (2 * g) cv) ∧ W.cell? ⟨bv, ov + (2 * j + 1), none⟩ = some (.int .i64 (s : Int)))) := Lib.hid fun W hW => by
          have hk1 : ∀ {b o : Nat} {u : Value}, w.cell? ⟨b, o, none⟩ = some u → W.cell? ⟨b, o, none⟩ = some u := fun {b o u} h => ((HBE.out.trans (hW.mono HBE.out.size)).cell (p := ⟨b, o, none⟩) (World.block_lt_of_cell? w _ h)).trans h
          obtain ⟨q0, q1, q2, q3, q4⟩ := box_cells5 ((hW.block w.heap.size (by have := HSZ.out; omega)).trans HNEW.out)
          exact ⟨q1, q3, hk1 hu1, hk1 hu2, hk1 hv1, hk1 hv2⟩
        obtain ⟨z1, z3, hu1', hu2', hv1', hv2'⟩ := HCE.out wr HST.out.2
        have hj0 : (0 : Int) ≤ (j : Int) := Int.natCast_nonneg _
        have hj1 : (j : Int) < (g : Int) := by omega
        have hj2 : (j : Int) ≤ 16 := by omega
        have hq0 : 2 * ((j : Int) + 1) - 1 = ((2 * j + 1 : Nat) : Int) := by omega
        have hq1 : ((2 * j + 1 : Nat) : Int) < ((2 * g : Nat) : Int) := by omega
        have hq2 : (0 : Int) ≤ ((2 * j + 1 : Nat) : Int) := by omega
        have hs0 : (0 : Int) ≤ (s : Int) := Int.natCast_nonneg _
        have hs1 : (s : Int) < (nn : Int) := by have := HLN.out; omega
        have hnb := number_bd t R g s j
        have hnb2 : number t R g s j ≤ 400000 := by
          have h3 : s * g ≤ 20000 * 16 := Nat.mul_le_mul (by omega) hg16
          omega
        have hnb1 := hnb.1
        have hxn : -(-((j : Int) + 1)) = (j : Int) + 1 := by omega
        have hxn2 : (j : Int) + 1 - 1 = (j : Int) := by omega
        have hgt : ¬ (0 : Int) < -((j : Int) + 1) := hp
        clear hB hkeep hu1 hu2 hv1 hv2 ha2 hl2 hpos hst hrl hc1 hc3 hnb p0 p1 p2 p3 p4 hp
        generalize hxe : -((j : Int) + 1) = x at *
        clear hxe
        generalize number t R g s j = N at *
        generalize 2 * j + 1 = g2 at *
        generalize 2 * g = gg at *
        by_cases hN : 0 < N
        · have HX : Hid (X'.2 = X2.2 ++ [-N]) := Lib.hid (by rw [HSUCC.out, if_pos (by omega)])
          obtain ⟨A', c', w', hrun, hls⟩ := HST.out.push HN.out (-N) HXL.out
          have HAPP := Lib.hid hrun
          have HLS := Lib.hid hls
          have HN2 : Hid (n + 1 = X'.2.length) := Lib.hid (by rw [HX.out, List.length_append, ← HN.out]; rfl)
          clear hrun hls
          go_wp2_with ((with_reducible refine wpList_sel 76 ?_); refine wpList_val rfl (r_app (.tmp 72) (.tmp 75) 25 rfl rfl rfl HAPP.out) ?_)
          go_roundw
          case rel => exact ⟨k + 1, n + 1, by go_num, by omega, by omega, by rw [HXE.out]; exact HN2, Lib.hid (by rw [HRNE.out, HRUN.out]), A', c', rfl, by rw [HXE.out, HX.out]; exact HLS⟩
          case measure => simp [intOf]; omega
        · have HX : Hid (X'.2 = X2.2) := Lib.hid (by rw [HSUCC.out, if_neg (by omega)])
          have HN2 : Hid (n = X'.2.length) := Lib.hid (by rw [HX.out]; exact HN.out)
          go_wp2_with fail
          go_roundw
          case rel => exact ⟨k + 1, n, by go_num, by omega, by omega, by rw [HXE.out]; exact HN2, Lib.hid (by rw [HRNE.out, HRUN.out]), A, c, rfl, by rw [HXE.out, HX.out]; exact HST⟩
          case measure => simp [intOf]; omega
    · obtain rfl : k = ws.length := by omega
      rename World => wz
      have hI := OwnI.ints HST.out.1 HFT.out
      have HC := Lib.hid (HRED.out wz _ hI)
      have HB := Lib.hid (HBE.out.trans (HST.out.2.mono HBE.out.size))
      clear hI
      go_wp2_with (go_at_call 120; (refine HC.out.mono ?_); rintro e w3 ⟨A', c', rfl, ho, hb⟩
                   have HO := Lib.hid (owns_base ho HB.out.size)
                   have HB3 := Lib.hid (HB.out.trans (hb.mono HB.out.size))
                   rw [← HRE.out] at HO ⊢
                   clear ho hb)
      go_ret
      exact ⟨_, _, rfl, HO.out, HB3.out⟩
end Go.Proofs
namespace Go.Proofs
open Go.RowKit Go.Shelf Go.Proofs.Ct Go.Maps

set_option maxRecDepth 100000 in
set_option maxHeartbeats 1000000 in
theorem rewrite21_bad (w : World) (v u : Value) (g fr : Int) (t : Tb) (ws : List Int) (ht : Tab w v t) (hu : IntsAt w u ws) (he : (repsE g t).2 ≠ 0) : Calls Try.prog 21 #[.int .i64 g, v, .int .i64 fr, u] w (RewPost g t fr ws w) := by
  have HC := Lib.hid (of69_bad w v g t ht he)
  have HE : Hid (rewE g t fr ws = ([], (repsE g t).2)) := Lib.hid (by unfold rewE; rw [if_pos he])
  have d1 : ((repsE g t).2 != 0) = true := by simpa using he
  obtain ⟨A, c, rfl⟩ := Tab.form ht
  obtain ⟨Au, cu, rfl, -, -, -⟩ := hu.open_
  generalize (repsE g t).2 = x at *
  clear ht he hu
  go_enter Try.func21, Try.ntmps21
  go_wp2_with (first
    | (go_at_call 69; (refine HC.out.mono ?_); rintro e w1 ⟨rfl, hb⟩
       have HN1 := Lib.hid (heap_alloc_new w1 (.cells zero99 99))
       have HB1 := Lib.hid hb
       clear hb)
    | ((with_reducible refine wpList_sel 10 ?_); refine wpList_val rfl (r_alloc99 rfl) ?_; refine wpList_skip rfl (r_store99 (.tmp 10) (.tmp 17) rfl w1.heap.size zero99 zero99 rfl rfl HN1.out rfl rfl zero99_one) ?_))
  go_ret2
  exact ⟨⟨.slice none 0 0, ret_of2 rfl (by rw [HE.out]), by rw [HE.out]; exact intsAt_nil⟩, below_boxed HB1.out _ _⟩

theorem any_letBad {g : Nat} {ws : List Int} (h : ∀ j, j < ws.length → letBad g (ws.getD j 0) = false) : ws.any (letBad g) = false := any_false_of h

set_option maxRecDepth 100000 in
set_option maxHeartbeats 2000000 in
theorem rewrite21_good (w : World) (v u : Value) (g : Nat) (fr : Int) (t : Tb) (ws : List Int) (ht : Tab w v t) (hu : IntsAt w u ws) (hg : TGood g t) (hstd : std t 0 = some t) : Calls Try.prog 21 #[.int .i64 (g : Int), v, .int .i64 fr, u] w (RewPost g t fr ws w) := by
  have hck := check_of_good hg
  have hre : repsE g t = (reps t, 0) := by unfold repsE; rw [hck, if_neg (by simp), if_pos hstd]
  have HC := Lib.hid (of69_good w v g t ht hg hstd)
  have HE : Hid (rewE g t fr ws = if (decide (fr < 0) || decide ((t.length : Int) ≤ fr) || ws.any (letBad g)) = true then ([], 2) else if 4000 < ws.length then ([], 4) else (rwW t (reps t) g fr.toNat ws, 0)) := Lib.hid (by
    unfold rewE; rw [hre, if_neg (by simp)]; rfl)
  have hg16 := hg.g16
  have hg0 : (0 : Int) ≤ (g : Int) := Int.natCast_nonneg _
  have hg1 : (g : Int) ≤ 16 := by omega
  have HG := Lib.hid hg
  have HSTD := Lib.hid (std_iff hstd)
  have HU := Lib.hid hu
  obtain ⟨A, c, rfl⟩ := Tab.form ht
  obtain ⟨Au, cu, rfl, hu1, hu2, hu3⟩ := hu.open_
  have HUC := Lib.hid hu3
  clear ht hstd hck hre hg hu hu3
  by_cases h1 : fr < 0
  · have HZ : Hid (rewE g t fr ws = ([], 2)) := Lib.hid (by rw [HE.out, if_pos (by simp [h1])])
    go_enter Try.func21, Try.ntmps21
    go_wp2_with (first
      | (go_at_call 69; (refine HC.out.mono ?_); rintro e w1 ⟨⟨vr, vn, rfl, hS⟩, hb⟩
         obtain ⟨Ar, cr, rfl⟩ := Tab.form hS.reps
         obtain ⟨An, cn, rfl⟩ := Tab.form hS.nums
         have HN1 := Lib.hid (heap_alloc_new w1 (.cells zero99 99))
         have HB1 := Lib.hid hb
         have HS := Lib.hid hS
         clear hb hS)
      | ((with_reducible refine wpList_sel 10 ?_); refine wpList_val rfl (r_alloc99 rfl) ?_; refine wpList_skip rfl (r_store99 (.tmp 10) (.tmp 17) rfl w1.heap.size zero99 #[.int .i64 (g : Int), .slice A t.length c, .slice Ar (reps t).length cr, .slice An (numsTo t (reps t) g t.length).length cn, .int .i64 ((pairs t (reps t) g).length : Int)] rfl rfl HN1.out rfl rfl (one99 _ _ _ _ _ _ _ _ _ _ _)) ?_))
    go_ret2
    exact ⟨⟨.slice none 0 0, ret_of2 rfl (by rw [HZ.out]), by rw [HZ.out]; exact intsAt_nil⟩, below_boxed HB1.out _ _⟩
  · by_cases h2 : (t.length : Int) ≤ fr
    · have HZ : Hid (rewE g t fr ws = ([], 2)) := Lib.hid (by rw [HE.out, if_pos (by simp [h2])])
      go_enter Try.func21, Try.ntmps21
      go_wp2_with (first
        | (go_at_call 69; (refine HC.out.mono ?_); rintro e w1 ⟨⟨vr, vn, rfl, hS⟩, hb⟩
           obtain ⟨Ar, cr, rfl⟩ := Tab.form hS.reps
           obtain ⟨An, cn, rfl⟩ := Tab.form hS.nums
           have HN1 := Lib.hid (heap_alloc_new w1 (.cells zero99 99))
           have HB1 := Lib.hid hb
           have HS := Lib.hid hS
           clear hb hS)
        | ((with_reducible refine wpList_sel 10 ?_); refine wpList_val rfl (r_alloc99 rfl) ?_; refine wpList_skip rfl (r_store99 (.tmp 10) (.tmp 17) rfl w1.heap.size zero99 #[.int .i64 (g : Int), .slice A t.length c, .slice Ar (reps t).length cr, .slice An (numsTo t (reps t) g t.length).length cn, .int .i64 ((pairs t (reps t) g).length : Int)] rfl rfl HN1.out rfl rfl (one99 _ _ _ _ _ _ _ _ _ _ _)) ?_))
      go_ret2
      exact ⟨⟨.slice none 0 0, ret_of2 rfl (by rw [HZ.out]), by rw [HZ.out]; exact intsAt_nil⟩, below_boxed HB1.out _ _⟩
    · go_enter Try.func21, Try.ntmps21
      go_wp2_with (first
        | (go_at_call 69; (refine HC.out.mono ?_); rintro e w1 ⟨⟨vr, vn, rfl, hS⟩, hb⟩
           obtain ⟨Ar, cr, rfl⟩ := Tab.form hS.reps
           obtain ⟨An, cn, rfl⟩ := Tab.form hS.nums
           have HN1 := Lib.hid (heap_alloc_new w1 (.cells zero99 99))
           have HB1 := Lib.hid hb
           have HS := Lib.hid hS
           clear hb hS)
        | ((with_reducible refine wpList_sel 10 ?_); refine wpList_val rfl (r_alloc99 rfl) ?_; refine wpList_skip rfl (r_store99 (.tmp 10) (.tmp 17) rfl w1.heap.size zero99 #[.int .i64 (g : Int), .slice A t.length c, .slice Ar (reps t).length cr, .slice An (numsTo t (reps t) g t.length).length cn, .int .i64 ((pairs t (reps t) g).length : Int)] rfl rfl HN1.out rfl rfl (one99 _ _ _ _ _ _ _ _ _ _ _)) ?_))
      have HB2 := Lib.hid (below_boxed HB1.out (.cells zero99 99) #[.int .i64 (g : Int), .slice A t.length c, .slice Ar (reps t).length cr, .slice An (numsTo t (reps t) g t.length).length cn, .int .i64 ((pairs t (reps t) g).length : Int)])
      have HBX := Lib.hid (setRow_heap (w1.alloc (.cells zero99 99)) w1.heap.size zero99 #[.int .i64 (g : Int), .slice A t.length c, .slice Ar (reps t).length cr, .slice An (numsTo t (reps t) g t.length).length cn, .int .i64 ((pairs t (reps t) g).length : Int)] 99 (0, 0) HN1.out)
      have HS2 := Lib.hid (HS.out.below (below_boxed (Below.refl _ _) (.cells zero99 99) #[.int .i64 (g : Int), .slice A t.length c, .slice Ar (reps t).length cr, .slice An (numsTo t (reps t) g t.length).length cn, .int .i64 ((pairs t (reps t) g).length : Int)]))
      generalize hw2 : (w1.alloc (.cells zero99 99)).setRow w1.heap.size #[.int .i64 (g : Int), .slice A t.length c, .slice Ar (reps t).length cr, .slice An (numsTo t (reps t) g t.length).length cn, .int .i64 ((pairs t (reps t) g).length : Int)] = w2 at *
      clear hw2 HN1
      go_loopw [12] (fun i wr => ∃ k : Nat, i = .int .i64 k ∧ k ≤ ws.length ∧ Hid (∀ j, j < k → letBad g (ws.getD j 0) = false) ∧ wr = w2) (fun i _ => ws.length - (intOf i).toNat)
      case atStart => exact ⟨0, rfl, by omega, Lib.hid fun j hj => absurd hj (by omega), rfl⟩
      case round =>
        obtain ⟨k, rfl, hk, HZ1, rfl⟩ := hrel
        have hk0 : (0 : Int) ≤ (k : Int) := Int.natCast_nonneg _
        by_cases hlt : k < ws.length
        · have hlt' : (k : Int) < (ws.length : Int) := by omega
          obtain ⟨bw, ow, rfl, hcc⟩ := HUC.out (by omega)
          have hck := hcc k hlt
          have hck' := (HB2.out.cell (p := ⟨bw, ow + k, none⟩) (World.block_lt_of_cell? w _ hck)).trans hck
          have HNX : Hid (letBad g (ws.getD k 0) = false → ∀ j, j < k + 1 → letBad g (ws.getD j 0) = false) := Lib.hid fun h => fun j hj => by
            rcases Nat.lt_or_ge j k with h' | h'
            · exact HZ1.out j h'
            · have : j = k := by omega
              rw [this]; exact h
          have HBD : Hid (letBad g (ws.getD k 0) = true → rewE g t fr ws = ([], 2)) := Lib.hid fun h => by
            rw [HE.out, if_pos (by rw [any_true_of hlt h]; simp)]
          have h0 : letBad g (ws.getD k 0) = (decide (ws.getD k 0 = 0) || decide (ws.getD k 0 < -(g : Int)) || decide ((g : Int) < ws.getD k 0)) := rfl
          have H0 := Lib.hid h0
          clear hcc hck h0
          generalize letBad g (ws.getD k 0) = lb at *
          generalize ws.getD k 0 = x at *
          by_cases e1 : x = 0
          · have HZ := Lib.hid (HBD.out (by rw [H0.out]; simp [e1]))
            have d1 : (x == 0) = true := by simpa using e1
            clear e1
            go_wp2_with fail
            go_ret2
            exact ⟨⟨.slice none 0 0, ret_of2 rfl (by rw [HZ.out]), by rw [HZ.out]; exact intsAt_nil⟩, HB2.out⟩
          · have d1 : (x == 0) = false := by simpa using e1
            by_cases e2 : (g : Int) < x
            · have HZ := Lib.hid (HBD.out (by rw [H0.out]; simp [e2]))
              clear e1
              go_wp2_with fail
              go_ret2
              exact ⟨⟨.slice none 0 0, ret_of2 rfl (by rw [HZ.out]), by rw [HZ.out]; exact intsAt_nil⟩, HB2.out⟩
            · by_cases e3 : x < -(g : Int)
              · have HZ := Lib.hid (HBD.out (by rw [H0.out]; simp [e3]))
                clear e1
                go_wp2_with fail
                go_ret2
                exact ⟨⟨.slice none 0 0, ret_of2 rfl (by rw [HZ.out]), by rw [HZ.out]; exact intsAt_nil⟩, HB2.out⟩
              · have HZ2 := Lib.hid (HNX.out (by rw [H0.out]; simp [e1, e2, e3]))
                clear e1
                go_wp2_with fail
                go_roundw
                case rel => exact ⟨k + 1, by go_num, by omega, HZ2, (by first | trivial | rfl)⟩
                case measure => simp [intOf]; omega
        · obtain rfl : k = ws.length := by omega
          have HANY := Lib.hid (any_letBad HZ1.out)
          by_cases h4 : 4000 < ws.length
          · have h4' : (4000 : Int) < (ws.length : Int) := by omega
            have HZ : Hid (rewE g t fr ws = ([], 4)) := Lib.hid (by rw [HE.out, if_neg (by rw [HANY.out]; simp; omega), if_pos h4])
            clear h4
            go_wp2_with fail
            go_ret2
            exact ⟨⟨.slice none 0 0, ret_of2 rfl (by rw [HZ.out]), by rw [HZ.out]; exact intsAt_nil⟩, HB2.out⟩
          · have h4' : ¬ (4000 : Int) < (ws.length : Int) := by omega
            have HZ : Hid (rewE g t fr ws = (rwW t (reps t) g fr.toNat ws, 0)) := Lib.hid (by rw [HE.out, if_neg (by rw [HANY.out]; simp; omega), if_neg h4])
            have h5 : fr.toNat < t.length := by omega
            have h6 : fr = ((fr.toNat : Nat) : Int) := by omega
            generalize fr.toNat = r at *
            subst h6
            have hlen : ws.length ≤ 100000 := by omega
            have HRW := Lib.hid (rewrite77_any wr (.slice A t.length c) (.slice Ar (reps t).length cr) (.slice An (numsTo t (reps t) g t.length).length cn) _ ((pairs t (reps t) g).length : Int) g t (reps t) r ws HS2.out HG.out HSTD.out h5 (kept_ints.below HU.out HB2.out) (letsOk_of HANY.out) hlen)
            clear h4 HE
            go_wp2_with (first
              | ((with_reducible refine wpList_sel 61 ?_); refine wpList_val rfl (r_loadAt 99 (.tmp 10) _ _ rfl rfl (load99 HBX.out)) ?_)
              | (go_at_call 77; (refine HRW.out.mono ?_); rintro e w3 ⟨A', c', rfl, ho, hb⟩
                 have HO := Lib.hid ho
                 have HB3 := Lib.hid (HB2.out.trans (hb.mono HB2.out.size))
                 clear ho hb))
            go_ret2
            exact ⟨⟨_, ret_of2 rfl (by rw [HZ.out]), by rw [HZ.out]; exact OwnI.ints HO.out (Mild.fits (rwW_mild HG.out HSTD.out (reps t) (letsOk_of HANY.out) h5))⟩, HB3.out⟩
theorem rewrite21_any (w : World) (v u : Value) (g fr : Int) (t : Tb) (ws : List Int) (ht : Tab w v t) (hu : IntsAt w u ws) : Calls Try.prog 21 #[.int .i64 g, v, .int .i64 fr, u] w (RewPost g t fr ws w) := by
  by_cases he : (repsE g t).2 = 0
  · obtain ⟨gn, rfl, hg, hstd, -⟩ := repsE_good he
    exact rewrite21_good w v u gn fr t ws ht hu hg hstd
  · exact rewrite21_bad w v u g fr t ws ht hu he
theorem gens19_any (w : World) (v : Value) (g : Int) (t : Tb) (ht : Tab w v t) : Calls Try.prog 19 #[.int .i64 g, v] w (GensPost g t w) := by
  by_cases he : (repsE g t).2 = 0
  · obtain ⟨gn, rfl, hg, hstd, -⟩ := repsE_good he
    exact gens19_good w v gn t ht hg hstd
  · exact gens19_bad w v g t ht he
end Go.Proofs
namespace Go.Proofs
open Go.RowKit Go.Shelf Go.Proofs.Ct Go.Maps

def SomeBool (e : Ending) : Prop := ∃ b, e = .returned (.bool b)
set_option maxRecDepth 100000 in
set_option maxHeartbeats 400000 in
theorem vast14_any (w : World) (v : Value) (t : Tb) (ht : Tab w v t) : Calls Try.prog 14 #[v] w fun e w' => SomeBool e ∧ w' = w := by
  obtain ⟨A, c, rfl, h1, h2, h3⟩ := ht.open_
  have HT := Lib.hid h3
  clear h3 ht
  have hn0 : (0 : Int) ≤ (t.length : Int) := Int.natCast_nonneg _
  go_enter Try.func14, Try.ntmps14
  go_wp2_with fail
  go_loopw [3] (fun i wr => ∃ k : Nat, i = .int .i64 k ∧ k ≤ t.length ∧ k ≤ 41 ∧ wr = w) (fun i _ => t.length - (intOf i).toNat)
  case atStart => exact ⟨0, rfl, by omega, by omega, rfl⟩
  case round =>
    obtain ⟨k, rfl, hk, hk41, rfl⟩ := hrel
    have hk0 : (0 : Int) ≤ (k : Int) := Int.natCast_nonneg _
    by_cases hlt : k < t.length
    · have hlt' : (k : Int) < (t.length : Int) := by omega
      by_cases h41 : k < 41
      · have h41' : (k : Int) < 41 := by omega
        obtain ⟨b, o, rfl, hcc⟩ := HT.out (by omega)
        obtain ⟨u, hu, hI⟩ := hcc k hlt
        obtain ⟨Au, cu, rfl, -, -, -⟩ := hI.open_
        clear hcc hI
        generalize (t.getD k []).length = rl at *
        by_cases hr : 40 < rl
        · have hr' : (40 : Int) < (rl : Int) := by omega
          go_wp2_with fail
          go_ret
          exact ⟨⟨_, rfl⟩, (by first | trivial | rfl)⟩
        · have hr' : ¬ (40 : Int) < (rl : Int) := by omega
          go_wp2_with fail
          go_roundw
          case rel => exact ⟨k + 1, by go_num, by omega, by omega, (by first | trivial | rfl)⟩
          case measure => simp [intOf]; omega
      · have h41' : ¬ (k : Int) < 41 := by omega
        go_wp2_with fail
        go_ret
        exact ⟨⟨_, rfl⟩, (by first | trivial | rfl)⟩
    · have hlt' : ¬ (k : Int) < (t.length : Int) := by omega
      go_wp2_with fail
      go_ret
      exact ⟨⟨_, rfl⟩, (by first | trivial | rfl)⟩

/-- a table of one row, in a new block -/
theorem tab_one {w : World} {v : Value} {x : List Int} (h : IntsAt w v x) : Tab (w.alloc (.cells #[v] 24)) (.slice (some ⟨w.heap.size, 0, none⟩) 1 1) [x] := by
  have hb : Below w.heap.size w (w.alloc (.cells #[v] 24)) := (Below.refl _ _).alloc (Nat.le_refl _) _
  refine ⟨[v], ⟨some ⟨w.heap.size, 0, none⟩, 1, 1, rfl, rfl, Nat.le_refl _, by simp [maxLen], fun _ => ⟨w.heap.size, 0, rfl, fun j u hu => ?_⟩⟩, rfl, fun i hi => ?_⟩
  · rw [cell_of_row _ _ _ _ _ _ (heap_alloc_new w _), Nat.zero_add]
    simpa using hu
  · have : i = 0 := by simpa using hi
    subst this
    first | exact h.below hb | exact ⟨v, rfl, h.below hb⟩

set_option maxRecDepth 100000 in
set_option maxHeartbeats 400000 in
theorem equal23_any (w : World) (u v : Value) (x y : List Int) (hu : IntsAt w u x) (hv : IntsAt w v y) : Calls Try.prog 23 #[u, v] w fun e w' => e = .returned (.bool (decide (x = y))) ∧ Below w.heap.size w w' := by
  have hb1 : Below w.heap.size w (w.alloc (.cells #[u] 24)) := (Below.refl _ _).alloc (Nat.le_refl _) _
  have hb2 : Below (w.alloc (.cells #[u] 24)).heap.size (w.alloc (.cells #[u] 24)) ((w.alloc (.cells #[u] 24)).alloc (.cells #[v] 24)) := (Below.refl _ _).alloc (Nat.le_refl _) _
  have hb : Below w.heap.size w ((w.alloc (.cells #[u] 24)).alloc (.cells #[v] 24)) := hb1.trans (hb2.mono hb1.size)
  have hc := same18_any ((w.alloc (.cells #[u] 24)).alloc (.cells #[v] 24)) _ _ [x] [y] (kept_tab.below (tab_one hu) hb2) (tab_one (hv.below hb1))
  rw [World.size_alloc] at hc
  have HC := Lib.hid hc
  have HB := Lib.hid hb
  have HD : Hid (decide ([x] = [y]) = decide (x = y)) := Lib.hid (by simp)
  obtain ⟨A, c, rfl, -, -, -⟩ := hu.open_
  obtain ⟨A', c', rfl, -, -, -⟩ := hv.open_
  clear hu hv hb1 hb2 hb hc
  generalize decide ([x] = [y]) = b at *
  generalize decide (x = y) = b' at *
  go_enter Try.func23, Try.ntmps23
  go_wp2_with (go_at_call 34; (refine HC.out.mono ?_); rintro e w' ⟨rfl, q, rfl⟩)
  go_ret
  exact ⟨ret_bool HD.out, below_drewN HB.out _⟩
end Go.Proofs
namespace Go.Proofs
open Go.RowKit Go.Shelf Go.Proofs.Ct Go.Maps

set_option maxRecDepth 100000 in
set_option maxHeartbeats 1000000 in
theorem same22_any (w : World) (va vb : Value) (A B : List (List Int)) (ha : Tab w va A) (hb : Tab w vb B) :
    Calls Try.prog 22 #[va, vb] w fun e w' => e = .returned (.bool (decide (A = B))) ∧ Below w.heap.size w w' := by
  obtain ⟨A0, ca, rfl, ha1, ha2, ha3⟩ := ha.open_
  obtain ⟨B0, cb, rfl, hb1, hb2, hb3⟩ := hb.open_
  have HA := Lib.hid ha3
  have HB := Lib.hid hb3
  clear ha hb ha3 hb3
  by_cases hl : A.length = B.length
  · have d1 : ((A.length : Int) != (B.length : Int)) = false := by simp; omega
    have d2 : (A.length != B.length) = false := by simp; omega
    have HL := Lib.hid hl
    clear hl
    go_enter Try.func22, Try.ntmps22
    go_wp2_with fail
    go_loopw [5] (fun i wr => ∃ k : Nat, k ≤ A.length ∧ i = .int .i64 k ∧ Hid (∀ j, j < k → A.getD j [] = B.getD j []) ∧ Hid (Below w.heap.size w wr)) (fun i _ => A.length - (intOf i).toNat)
    case atStart => exact ⟨0, Nat.zero_le _, rfl, Lib.hid fun j hj => absurd hj (by omega), Lib.hid (Below.refl _ _)⟩
    case round =>
      obtain ⟨k, hk, rfl, HZ, HBW⟩ := hrel
      by_cases hlt : k < A.length
      · obtain ⟨b1, o1, rfl, hc1⟩ := HA.out (by omega)
        obtain ⟨b2, o2, rfl, hc2⟩ := HB.out (by rw [← HL.out]; omega)
        obtain ⟨u1, hu1, hr1⟩ := hc1 k hlt
        obtain ⟨u2, hu2, hr2⟩ := hc2 k (by rw [← HL.out]; omega)
        have HR1 := Lib.hid hr1
        have HR2 := Lib.hid hr2
        have hk0 : (0 : Int) ≤ (k : Int) := Int.natCast_nonneg _
        have hkb : (k : Int) < (B.length : Int) := by rw [← HL.out]; omega
        have hka : (k : Int) < (A.length : Int) := by omega
        have HN : Hid (A.getD k [] ≠ B.getD k [] → A ≠ B) := Lib.hid (fun h => getD_ne (A := A) (B := B) (d := []) (k := k) h)
        have HK : Hid (A.getD k [] = B.getD k [] → ∀ j, j < k + 1 → A.getD j [] = B.getD j []) := Lib.hid (fun h => all_succ HZ.out h)
        have HSS : Hid (∀ w', Below w.heap.size w w' → w'.cell? ⟨b1, o1 + k, none⟩ = some u1 ∧ w'.cell? ⟨b2, o2 + k, none⟩ = some u2) := Lib.hid fun w' h => ⟨(h.cell (p := ⟨b1, o1 + k, none⟩) (World.block_lt_of_cell? w _ hu1)).trans hu1, (h.cell (p := ⟨b2, o2 + k, none⟩) (World.block_lt_of_cell? w _ hu2)).trans hu2⟩
        obtain ⟨A3, c3, rfl, hd1, hd2, -⟩ := hr1.open_
        obtain ⟨A4, c4, rfl, he1, he2, -⟩ := hr2.open_
        clear hc1 hc2 hr1 hr2 hu1 hu2
        generalize A.getD k [] = x at *
        generalize B.getD k [] = y at *
        by_cases hxy : x = y
        · have HE : Hid (decide (x = y) = true) := Lib.hid (decide_eq_true hxy)
          have HK2 := Lib.hid (HK.out hxy)
          clear hxy HN HK
          go_wp2_with fail
          have HW : Hid (Below w.heap.size w wr.drew) := Lib.hid HBW.out.drew
          go_region_held3 (fun w' => w'.cell? ⟨b1, o1 + k, none⟩ = some (.slice A3 x.length c3) ∧ w'.cell? ⟨b2, o2 + k, none⟩ = some (.slice A4 y.length c4)) (first | exact HSS.out _ HW.out)
            (first
            | (go_at_call 23; (refine (equal23_any _ _ _ x y (HR1.out.below HW.out) (HR2.out.below HW.out)).mono ?_); rintro e w6 ⟨rfl, hb6⟩; rw [HE.out]; have HW := Lib.hid (HW.out.trans (hb6.mono HW.out.size)); clear hb6))
          all_goals
            go_wp2_with fail
            go_roundw
            case rel => exact ⟨k + 1, by omega, by go_num, HK2, HW⟩
            case measure => simp [intOf]; omega
        · have HE : Hid (decide (x = y) = false) := Lib.hid (decide_eq_false hxy)
          have HD : Hid (decide (A = B) = false) := Lib.hid (decide_eq_false (HN.out hxy))
          clear hxy HN HK
          go_wp2_with fail
          have HW : Hid (Below w.heap.size w wr.drew) := Lib.hid HBW.out.drew
          go_region_held3 (fun w' => w'.cell? ⟨b1, o1 + k, none⟩ = some (.slice A3 x.length c3) ∧ w'.cell? ⟨b2, o2 + k, none⟩ = some (.slice A4 y.length c4)) (first | exact HSS.out _ HW.out)
            (first
            | (go_at_call 23; (refine (equal23_any _ _ _ x y (HR1.out.below HW.out) (HR2.out.below HW.out)).mono ?_); rintro e w6 ⟨rfl, hb6⟩; rw [HE.out]; have HW := Lib.hid (HW.out.trans (hb6.mono HW.out.size)); clear hb6))
          all_goals
            go_wp2_with fail
            go_ret
            exact ⟨ret_bool HD.out.symm, HW.out⟩
      · obtain rfl : k = A.length := by omega
        have HD : Hid (decide (A = B) = true) := Lib.hid (decide_eq_true (getD_ext HL.out HZ.out))
        go_wp2_with fail
        go_ret
        exact ⟨ret_bool HD.out.symm, HBW.out⟩
  · have d1 : ((A.length : Int) != (B.length : Int)) = true := by simp; omega
    have d2 : (A.length != B.length) = true := by simp; omega
    have HD : Hid (decide (A = B) = false) := Lib.hid (decide_eq_false fun h => hl (by rw [h]))
    clear hl
    go_enter Try.func22, Try.ntmps22
    go_wp2_with fail
    go_ret
    exact ⟨ret_bool HD.out.symm, Below.refl _ _⟩

/-- numbers in a new block -/
theorem ints_lit (w : World) (xs : List Int) (hf : Fits xs) (n : Nat) (hn : xs.length = n) (hm : n ≤ 1000) : IntsAt (w.alloc (.cells (ints xs).toArray 3)) (.slice (some ⟨w.heap.size, 0, none⟩) n n) xs := by
  subst hn
  refine ⟨⟨_, xs.length, xs.length, rfl, by simp [ints], Nat.le_refl _, by have : xs.length ≤ 9223372036854775807 := by omega
                                                                           simpa [maxLen] using this, fun _ => ⟨w.heap.size, 0, rfl, fun j u hu => ?_⟩⟩, hf⟩
  rw [cell_of_row _ _ _ _ _ _ (heap_alloc_new w _), Nat.zero_add]
  simpa using hu
theorem tab_three (w : World) (u v z : Value) (x y q : List Int) (hu : IntsAt w u x) (hv : IntsAt w v y) (hz : IntsAt w z q) {e : TypeId} : Tab (w.alloc (.cells #[u, v, z] e)) (.slice (some ⟨w.heap.size, 0, none⟩) 3 3) [x, y, q] := by
  have hb : Below w.heap.size w (w.alloc (.cells #[u, v, z] e)) := (Below.refl _ _).alloc (Nat.le_refl _) _
  refine ⟨[u, v, z], ⟨_, 3, 3, rfl, rfl, Nat.le_refl _, by simp [maxLen], fun _ => ⟨w.heap.size, 0, rfl, fun j a ha => ?_⟩⟩, rfl, fun i hi => ?_⟩
  · rw [cell_of_row _ _ _ _ _ _ (heap_alloc_new w _), Nat.zero_add]
    simpa using ha
  · have : i = 0 ∨ i = 1 ∨ i = 2 := by simp at hi; omega
    rcases this with rfl | rfl | rfl
    · exact ⟨u, rfl, hu.below hb⟩
    · exact ⟨v, rfl, hv.below hb⟩
    · exact ⟨z, rfl, hz.below hb⟩

def halfT : List (List Int) := [[1, 1, 0, 0], [0, 0, 1, 1]]
theorem half27_any (w : World) : Calls Try.prog 27 #[] w fun e w' => (∃ u, e = .returned u ∧ Tab w' u halfT) ∧ Below w.heap.size w w' := by
  have h1 := ints_lit w [1, 1, 0, 0] (by unfold Fits; decide) 4 rfl (by omega)
  have hb1 : Below (w.alloc (.cells (ints [1, 1, 0, 0]).toArray 3)).heap.size (w.alloc (.cells (ints [1, 1, 0, 0]).toArray 3)) ((w.alloc (.cells (ints [1, 1, 0, 0]).toArray 3)).alloc (.cells (ints [0, 0, 1, 1]).toArray 3)) := (Below.refl _ _).alloc (Nat.le_refl _) _
  have h2 := ints_lit (w.alloc (.cells (ints [1, 1, 0, 0]).toArray 3)) [0, 0, 1, 1] (by unfold Fits; decide) 4 rfl (by omega)
  have h3 := tab_two _ _ _ _ _ (h1.below hb1) h2 (e := 24)
  have hb : Below w.heap.size w (((w.alloc (.cells (ints [1, 1, 0, 0]).toArray 3)).alloc (.cells (ints [0, 0, 1, 1]).toArray 3)).alloc (.cells #[.slice (some ⟨w.heap.size, 0, none⟩) 4 4, .slice (some ⟨(w.alloc (.cells (ints [1, 1, 0, 0]).toArray 3)).heap.size, 0, none⟩) 4 4] 24)) :=
    (((Below.refl _ _).alloc (Nat.le_refl _) _).alloc (by simp) _).alloc (by simp; omega) _
  simp only [World.size_alloc] at h3 hb
  have H3 := Lib.hid h3
  have HB := Lib.hid hb
  clear h1 hb1 h2 h3 hb
  go_enter Try.func27, Try.ntmps27
  go_wp2_with fail
  go_ret
  exact ⟨⟨_, rfl, H3.out⟩, HB.out⟩

def wakeT : List (List Int) := [[2], [1, 1], [1, 2, -1]]
theorem gens_half : gensE 2 halfT = (wakeT, 0) := by decide +kernel
theorem wake_tab (w : World) : Tab ((((w.alloc (.cells (ints [2]).toArray 3)).alloc (.cells (ints [1, 1]).toArray 3)).alloc (.cells (ints [1, 2, -1]).toArray 3)).alloc (.cells #[.slice (some ⟨w.heap.size, 0, none⟩) 1 1, .slice (some ⟨w.heap.size + 1, 0, none⟩) 2 2, .slice (some ⟨w.heap.size + 1 + 1, 0, none⟩) 3 3] 25)) (.slice (some ⟨w.heap.size + 1 + 1 + 1, 0, none⟩) 3 3) wakeT := by
  have h1 := ints_lit w [2] (by unfold Fits; decide) 1 rfl (by omega)
  have h2 := ints_lit (w.alloc (.cells (ints [2]).toArray 3)) [1, 1] (by unfold Fits; decide) 2 rfl (by omega)
  have h3 := ints_lit ((w.alloc (.cells (ints [2]).toArray 3)).alloc (.cells (ints [1, 1]).toArray 3)) [1, 2, -1] (by unfold Fits; decide) 3 rfl (by omega)
  have h4 := tab_three _ _ _ _ _ _ _ (h1.below (((Below.refl _ _).alloc (Nat.le_refl _) _).alloc (by simp) _)) (h2.below ((Below.refl _ _).alloc (Nat.le_refl _) _)) h3 (e := 25)
  simp only [World.size_alloc] at h4
  exact h4
theorem wake_below (w : World) : Below w.heap.size w ((((w.alloc (.cells (ints [2]).toArray 3)).alloc (.cells (ints [1, 1]).toArray 3)).alloc (.cells (ints [1, 2, -1]).toArray 3)).alloc (.cells #[.slice (some ⟨w.heap.size, 0, none⟩) 1 1, .slice (some ⟨w.heap.size + 1, 0, none⟩) 2 2, .slice (some ⟨w.heap.size + 1 + 1, 0, none⟩) 3 3] 25)) :=
  (((((Below.refl _ _).alloc (Nat.le_refl _) _).alloc (by simp) _).alloc (by simp; omega) _).alloc (by simp; omega) _)

set_option maxRecDepth 100000 in
set_option maxHeartbeats 1000000 in
theorem awake15_any (w : World) : Calls Try.prog 15 #[] w fun e w' => e = .returned (.bool true) ∧ Below w.heap.size w w' := by
  have HH := Lib.hid (half27_any w)
  have HG := Lib.hid (fun W u (h : Tab W u halfT) => (gens18_any W u 2 halfT h).mono fun e w' (⟨⟨v, h1, h2⟩, h3⟩ : GensPost 2 halfT W e w') => by
    rw [gens_half] at h1 h2
    exact (⟨⟨v, h1, h2⟩, h3⟩ : (∃ v, e = .returned (.tuple #[v, .int .i64 0]) ∧ TabB W.heap.size w' v wakeT) ∧ Below W.heap.size W w'))
  go_enter Try.func15, Try.ntmps15
  go_wp2_with (first
    | (go_at_call 27; (refine HH.out.mono ?_); rintro e w1 ⟨⟨u, rfl, hu⟩, hb⟩
       have HU := Lib.hid hu
       have HB1 := Lib.hid hb
       clear hu hb)
    | (go_at_call 18; (refine (HG.out _ _ HU.out).mono ?_); rintro e w2 ⟨⟨v, rfl, hv⟩, hb⟩
       have HV := Lib.hid hv.at_
       have HB2 := Lib.hid (HB1.out.trans (hb.mono HB1.out.size))
       obtain ⟨A, c, rfl⟩ := Tab.form HV.out
       clear hv hb)
    | (go_at_call 22; (refine (same22_any _ _ _ wakeT wakeT (kept_tab.below HV.out (wake_below w2)) (wake_tab w2)).mono ?_); rintro e w3 ⟨rfl, hb⟩
       have HB3 := Lib.hid ((HB2.out.trans ((wake_below w2).mono HB2.out.size)).trans (hb.mono (Nat.le_trans HB2.out.size (wake_below w2).size)))
       clear hb))
  go_ret
  exact ⟨rfl, HB3.out⟩
end Go.Proofs
namespace Go.Proofs
open Go.RowKit Go.Shelf Go.Proofs.Ct Go.Maps

set_option maxRecDepth 100000 in
set_option maxHeartbeats 2000000 in
theorem tables_walk (w : World) (g : Int) (v : Value) (fr : Int) (u : Value) (t : Tb) (ws : List Int) (ht : Tab w v t) (hu : IntsAt w u ws) :
    Calls Try.prog 3 #[.int .i64 g, v, .int .i64 fr, u] w fun e w' => e = .returned (.bool true) ∧ Below w.heap.size w w' := by
  have HT := Lib.hid ht
  have HU := Lib.hid hu
  obtain ⟨A, c, rfl⟩ := Tab.form ht
  obtain ⟨Au, cu, rfl, hu1, hu2, -⟩ := hu.open_
  have HV := Lib.hid (vast14_any w (.slice A t.length c) t ht)
  clear ht hu
  have HTK : Hid (∀ W, Below w.heap.size w W → Tab W (.slice A t.length c) t) := Lib.hid fun W h => kept_tab.below HT.out h
  have HUK : Hid (∀ W, Below w.heap.size w W → IntsAt W (.slice Au ws.length cu) ws) := Lib.hid fun W h => HU.out.below h
  have hw0 : (0 : Int) ≤ (ws.length : Int) := Int.natCast_nonneg _
  go_enter Try.func3, Try.ntmps3
  go_wp2_with fail
  refine HV.out.mono ?_
  rintro e w' ⟨⟨b, rfl⟩, rfl⟩
  cases b with
  | true =>
    go_wp2_with (go_at_call 15; (refine (awake15_any _).mono ?_); rintro e w3 ⟨rfl, hb⟩
                 have HB := Lib.hid hb
                 clear hb)
    go_ret
    exact ⟨rfl, HB.out⟩
  | false =>
    by_cases hl : 100 < ws.length
    · have hl' : (100 : Int) < (ws.length : Int) := by omega
      clear hl
      go_wp2_with (go_at_call 15; (refine (awake15_any _).mono ?_); rintro e w3 ⟨rfl, hb⟩
                   have HB := Lib.hid hb
                   clear hb)
      go_ret
      exact ⟨rfl, HB.out⟩
    · have hl' : ¬ (100 : Int) < (ws.length : Int) := by omega
      clear hl
      have H16 : Hid (∀ W, Below w'.heap.size w' W → Calls Try.prog 16 #[.int .i64 g, .slice A t.length c] W fun e w'' => e = .returned (.tuple #[.int .i64 (countE g t), .int .i64 (repsE g t).2]) ∧ Below W.heap.size W w'') := Lib.hid fun W h => count16_any W _ g t (HTK.out W h)
      have H17 : Hid (∀ W, Below w'.heap.size w' W → Calls Try.prog 17 #[.int .i64 g, .slice A t.length c] W fun e w'' => e = .returned (.tuple #[.int .i64 (countE g t), .int .i64 (repsE g t).2]) ∧ Below W.heap.size W w'') := Lib.hid fun W h => count17_any W _ g t (HTK.out W h)
      have H18 : Hid (∀ W, Below w'.heap.size w' W → Calls Try.prog 18 #[.int .i64 g, .slice A t.length c] W (GensPost g t W)) := Lib.hid fun W h => gens18_any W _ g t (HTK.out W h)
      have H19 : Hid (∀ W, Below w'.heap.size w' W → Calls Try.prog 19 #[.int .i64 g, .slice A t.length c] W (GensPost g t W)) := Lib.hid fun W h => gens19_any W _ g t (HTK.out W h)
      have H20 : Hid (∀ W, Below w'.heap.size w' W → Calls Try.prog 20 #[.int .i64 g, .slice A t.length c, .int .i64 fr, .slice Au ws.length cu] W (RewPost g t fr ws W)) := Lib.hid fun W h => rewrite20_any W _ _ g fr t ws (HTK.out W h) (HUK.out W h)
      have H21 : Hid (∀ W, Below w'.heap.size w' W → Calls Try.prog 21 #[.int .i64 g, .slice A t.length c, .int .i64 fr, .slice Au ws.length cu] W (RewPost g t fr ws W)) := Lib.hid fun W h => rewrite21_any W _ _ g fr t ws (HTK.out W h) (HUK.out W h)
      have HB0 := Lib.hid (Below.refl w'.heap.size w')
      have H22 : Hid (∀ (W : World) (a b : Value), Tab W a (gensE g t).1 → Tab W b (gensE g t).1 → Calls Try.prog 22 #[a, b] W fun e w'' => e = .returned (.bool true) ∧ Below W.heap.size W w'') := Lib.hid fun W a b h1 h2 => (same22_any W a b _ _ h1 h2).mono fun e w'' ⟨h, h'⟩ => ⟨h.trans (ret_bool (decide_eq_true rfl)), h'⟩
      have H23 : Hid (∀ (W : World) (a b : Value), IntsAt W a (rewE g t fr ws).1 → IntsAt W b (rewE g t fr ws).1 → Calls Try.prog 23 #[a, b] W fun e w'' => e = .returned (.bool true) ∧ Below W.heap.size W w'') := Lib.hid fun W a b h1 h2 => (equal23_any W a b _ _ h1 h2).mono fun e w'' ⟨h, h'⟩ => ⟨h.trans (ret_bool (decide_eq_true rfl)), h'⟩
      unfold GensPost at H18 H19
      unfold RewPost at H20 H21
      clear HTK HUK HV HT HU
      generalize countE g t = ce at *
      generalize (repsE g t).2 = re at *
      generalize (gensE g t).2 = ge at *
      generalize (gensE g t).1 = gl at *
      generalize (rewE g t fr ws).2 = we at *
      generalize (rewE g t fr ws).1 = wl at *
      go_wp2_with (first
        | (go_at_call 16; (refine (H16.out _ HB0.out).mono ?_); rintro e w1 ⟨rfl, hb⟩
           have HB1 := Lib.hid (HB0.out.trans (hb.mono HB0.out.size))
           clear hb)
        | (go_at_call 17; (refine (H17.out _ HB1.out).mono ?_); rintro e w2 ⟨rfl, hb⟩
           have HB2 := Lib.hid (HB1.out.trans (hb.mono HB1.out.size))
           clear hb)
        | (go_at_call 18; (refine (H18.out _ HB2.out).mono ?_); rintro e w3 ⟨⟨x1, rfl, hx⟩, hb⟩
           have HB3 := Lib.hid (HB2.out.trans (hb.mono HB2.out.size))
           have HX1 := Lib.hid hx.at_
           clear hb hx)
        | (go_at_call 19; (refine (H19.out _ HB3.out).mono ?_); rintro e w4 ⟨⟨x2, rfl, hx⟩, hb⟩
           have HB4 := Lib.hid (HB3.out.trans (hb.mono HB3.out.size))
           have HX14 := Lib.hid (kept_tab.below HX1.out hb)
           have HX2 := Lib.hid hx.at_
           clear hb hx HX1)
        | (go_at_call 20; (refine (H20.out _ HB4.out).mono ?_); rintro e w5 ⟨⟨x3, rfl, hx⟩, hb⟩
           have HB5 := Lib.hid (HB4.out.trans (hb.mono HB4.out.size))
           have HX15 := Lib.hid (kept_tab.below HX14.out hb)
           have HX25 := Lib.hid (kept_tab.below HX2.out hb)
           have HX3 := Lib.hid hx
           clear hb hx HX14 HX2)
        | (go_at_call 21; (refine (H21.out _ HB5.out).mono ?_); rintro e w6 ⟨⟨x4, rfl, hx⟩, hb⟩
           have HB6 := Lib.hid (HB5.out.trans (hb.mono HB5.out.size))
           have HX16 := Lib.hid (kept_tab.below HX15.out hb)
           have HX26 := Lib.hid (kept_tab.below HX25.out hb)
           have HX36 := Lib.hid (HX3.out.below hb)
           have HX46 := Lib.hid hx
           obtain ⟨B1, k1, rfl⟩ := Tab.form HX16.out
           obtain ⟨B2, k2, rfl⟩ := Tab.form HX26.out
           obtain ⟨B3, k3, rfl, -, -, -⟩ := HX36.out.open_
           obtain ⟨B4, k4, rfl, -, -, -⟩ := HX46.out.open_
           clear hb hx HX15 HX25 HX3)
        | (go_at_call 22; (refine (H22.out _ _ _ HX16.out HX26.out).mono ?_); rintro e w7 ⟨rfl, hb⟩
           have HB7 := Lib.hid (HB6.out.trans (hb.mono HB6.out.size))
           have HX37 := Lib.hid (HX36.out.below hb)
           have HX47 := Lib.hid (HX46.out.below hb)
           clear hb)
        | (go_at_call 23; (refine (H23.out _ _ _ HX37.out HX47.out).mono ?_); rintro e w8 ⟨rfl, hb⟩
           have HB8 := Lib.hid (HB7.out.trans (hb.mono HB7.out.size))
           clear hb)
        | (go_at_call 15; (refine (awake15_any _).mono ?_); rintro e w9 ⟨rfl, hb⟩
           have HB9 := Lib.hid (HB8.out.trans (hb.mono HB8.out.size))
           clear hb))
      go_ret
      exact ⟨rfl, HB9.out⟩
end Go.Proofs
namespace Go.Proofs
open Go.RowKit Go.ChangeShapes Go.WideShapes Go.ChangeAt Go.Deep

section
variable {H : Type} {enc : TypeId × Value → H} {W : World}
theorem spot_none {a : Addr} {v : Value} (h : W.cell? (a.add 0) = some v) : a = ⟨a.block, a.off, none⟩ := by
  obtain ⟨b, o, s⟩ := a
  cases s with
  | none => rfl
  | some q =>
    exfalso
    have e : ({ block := b, off := o, spot := some q } : Addr).add 0 = { block := b, off := o, spot := some q } := by unfold Addr.add; rw [if_pos rfl]
    rw [e] at h
    unfold World.cell? at h
    simp only [Option.isSome_some, if_true] at h
    split at h <;> cases h
theorem wf_fits {x : Int} (h : (Lit.int .i64 x).wf = true) : -9223372036854775808 ≤ x ∧ x ≤ 9223372036854775807 := by
  simpa [Lit.wf, IntKind.min, IntKind.max, IntKind.signed, IntKind.bits] using h
theorem lat_of_trod {α : Type} {R : World → Value → α → Prop} {d : α} {t e : TypeId} {base fuel : Nat} {spare : Nat → Bool} {held : Bool} {v : Value} {x : DataW H × List MemPlace} (ht : Try.prog.underlying t = some (.slice e)) (hc : Try.prog.cellsOf e = 1)
    (hR : ∀ n u y, DataW.trod enc Try.prog W base spare held n e [u] = some y → ∃ z, R W u z) (h : DataW.trod enc Try.prog W base spare held fuel t [v] = some x) : ∃ xs, LAt R d W v xs := by
  rcases open_slice1 ht hc h with ⟨hv, -⟩ | ⟨a, len, cap, m, n, V, D, Pl, hv, -, hl, hm, hmm, -, hx⟩
  · obtain rfl : v = .slice none 0 0 := by simpa using hv
    exact ⟨[], [], ⟨none, 0, 0, rfl, rfl, Nat.le_refl _, by simp [maxLen], fun h => absurd h (by simp)⟩, rfl, fun i hi => absurd hi (by simp)⟩
  · obtain rfl : v = .slice (some a) len cap := by simpa using hv
    have hlm : len ≤ m := by rw [hmm]; split <;> omega
    have hz : ∀ i, i < len → ∃ z, R W (V i) z := fun i hi => hR n (V i) _ (hx i (by omega)).2
    have hf : ∃ f : Nat → α, ∀ i, i < len → R W (V i) (f i) := by
      have hz' : ∀ i, ∃ z, i < len → R W (V i) z := fun i => by
        by_cases hi : i < len
        · obtain ⟨z, hz⟩ := hz i hi; exact ⟨z, fun _ => hz⟩
        · exact ⟨d, fun h => absurd h hi⟩
      exact ⟨fun i => Classical.choose (hz' i), fun i => Classical.choose_spec (hz' i)⟩
    obtain ⟨f, hf⟩ := hf
    refine ⟨(List.range len).map f, (List.range len).map V, ⟨_, len, cap, rfl, by simp, hl, hm, fun h0 => ?_⟩, by simp, fun i hi => ?_⟩
    · have hsp := spot_none (hx 0 (by omega)).1
      refine ⟨a.block, a.off, by rw [← hsp], fun j u hu => ?_⟩
      have hj : j < len := by have := (List.getElem?_eq_some_iff.1 hu).1; simpa using this
      have := (hx j (by omega)).1
      rw [hsp, Addr.add_lit] at this
      rw [this, ← hu]
      simp [List.getElem?_range hj]
    · have hi' : i < len := by simpa using hi
      refine ⟨V i, by simp [List.getElem?_range hi'], ?_⟩
      have : ((List.range len).map f).getD i d = f i := by simp [List.getD_eq_getElem?_getD, List.getElem?_range hi']
      rw [this]
      exact hf i hi'
theorem intsT_of_trod {t : TypeId} (ht : Try.prog.underlying t = some (.slice 3)) {base fuel : Nat} {spare : Nat → Bool} {held : Bool} {v : Value} {x : DataW H × List MemPlace} (h : DataW.trod enc Try.prog W base spare held fuel t [v] = some x) : ∃ xs, IntsAt W v xs := by
  obtain ⟨xs, vs, hS, hl, he⟩ := lat_of_trod (R := fun _ u z => u = .int .i64 z ∧ (Lit.int .i64 z).wf = true) (d := 0) ht (by kernel_rfl) (fun n u y hy => by
    obtain ⟨m, hu, -, hw⟩ := DataW.trod_int Try.underlying3 hy
    exact ⟨m, by simpa using hu, hw⟩) h
  have hvs : vs = ints xs := by
    apply List.ext_getElem (by simpa [ints] using hl)
    intro i h1 h2
    obtain ⟨u, hu, rfl, -⟩ := he i (by omega)
    have hi : i < xs.length := by omega
    rw [List.getElem?_eq_getElem h1] at hu
    rw [Option.some.inj hu]
    simp [ints, List.getD_eq_getElem?_getD, hi]
  refine ⟨xs, hvs ▸ hS, fun z hz => ?_⟩
  obtain ⟨i, hi, rfl⟩ := List.getElem_of_mem hz
  obtain ⟨u, -, -, hw⟩ := he i hi
  have e : xs.getD i 0 = xs[i] := by simp [List.getD_eq_getElem?_getD, hi]
  rw [e] at hw
  exact wf_fits hw
theorem ints_of_trod {base fuel : Nat} {spare : Nat → Bool} {held : Bool} {v : Value} {x : DataW H × List MemPlace} (h : DataW.trod enc Try.prog W base spare held fuel 24 [v] = some x) : ∃ xs, IntsAt W v xs := intsT_of_trod Try.underlying24 h
theorem word_of_trod {base fuel : Nat} {spare : Nat → Bool} {held : Bool} {v : Value} {x : DataW H × List MemPlace} (h : DataW.trod enc Try.prog W base spare held fuel 25 [v] = some x) : ∃ xs, IntsAt W v xs := intsT_of_trod Try.underlying25 h
theorem tab_of_trod {base fuel : Nat} {spare : Nat → Bool} {held : Bool} {v : Value} {x : DataW H × List MemPlace} (h : DataW.trod enc Try.prog W base spare held fuel 23 [v] = some x) : ∃ L, Tab W v L :=
  lat_of_trod Try.underlying23 (by kernel_rfl) (fun _ _ _ hy => ints_of_trod hy) h
theorem words_of_trod {base fuel : Nat} {spare : Nat → Bool} {held : Bool} {v : Value} {x : DataW H × List MemPlace} (h : DataW.trod enc Try.prog W base spare held fuel 31 [v] = some x) : ∃ L, Tab W v L :=
  lat_of_trod Try.underlying31 (by kernel_rfl) (fun _ _ _ hy => word_of_trod hy) h
end
end Go.Proofs
