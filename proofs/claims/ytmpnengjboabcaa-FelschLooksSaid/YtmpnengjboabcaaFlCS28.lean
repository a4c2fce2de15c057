/- The reference of lookahead; The walk of FelschLooks. -/
import Derived.Test.YtmpnengjboabcaaFlCS27
import Derived.Test.YtmpnengjboabcaaFlCS21
import Derived.Test.YtmpnengjboabcaaFlCS10
import Derived.Test.YtmpnengjboabcaaFlCS9
import Derived.Test.YtmpnengjboabcaaFlCS25
namespace Go.Proofs
open Go.RowKit Go.Shelf Go.Proofs.Ct Go.Maps
theorem res88 {q : Nat} {w : World} {v : Value} {a b c e : Int} (h : NumC q w a b c) (tmps : Array Value) (h6 : tmps[6]? = some v) (h7 : tmps[7]? = some (.pointer (some ⟨q, 0, none⟩))) (h8 : tmps[8]? = some (.int .i64 e)) :
    (results Try.f88 tmps).run Try.prog w = .ok (.tuple #[v, .agg #[.int .i64 a, .int .i64 b, .int .i64 c], .int .i64 e]) w := by
  obtain ⟨c1, c2, c3, -, -, -⟩ := h
  simp [results, Try.results88, go_sem, h6, h7, h8, asAddr, c1, c2, c3]
theorem build179 (b : Nat) (g : Int) (A : Option Addr) (n c : Nat) (w : World) : (Instr.build 179 #[(0, .pointer (some ⟨b, 0, none⟩)), (1, .agg #[.int .i64 g, .slice A n c])]).run Try.prog w = .ok (.agg #[.pointer (some ⟨b, 0, none⟩), .int .i64 g, .slice A n c, .int .i64 0, .int .i64 0, .int .i64 0]) w := by kernel_rfl
namespace Ct
theorem relL_stop {m lim : Nat} {rels : List W} {z : LS} (h : z.lost = true ∨ z.s.rp z.r ≠ z.r) (i : Nat) : relL m lim rels i z = some z := by
  unfold relL
  rw [if_neg fun h' => ?_]
  rcases h with h | h
  · rw [h] at h'; simp at h'
  · exact h h'.2
theorem colsL_stop {m lim : Nat} {rels : List W} {z : LS} (h : z.lost = true ∨ z.s.rp z.r ≠ z.r) : colsL m lim rels z = some z := by
  unfold colsL
  rw [if_neg fun h' => ?_]
  rcases h with h | h
  · rw [h] at h'; simp at h'
  · exact h h'.2
end Ct
theorem LkR.goto {vr : Value} {g base b bx lim : Nat} {w : World} {x : LS} (h : LkR vr g base b bx lim w x) (y : LS) (hs : y.s = x.s) (h1 : y.removed = x.removed) (h2 : y.looks = x.looks) (z : Int) (hz : z = rL y) : LkR vr g base b bx lim (w.setCell ⟨bx, 3, none⟩ (.int .i64 z)) y := by
  obtain ⟨a1, a2, a3, a4, a5⟩ := h
  refine ⟨by rw [hs]; exact a1.other a3.box (by decide) 3 _, a2, ?_, by rw [h1, h2]; exact a4, by rw [hs]; exact a5⟩
  rw [h1, h2, ← hz]
  exact a3.upd3 z
set_option maxRecDepth 100000 in
set_option maxHeartbeats 8000000 in
theorem look88_B (w : World) (vr vs : Value) (g : Int) (rels sub : List W) (limit : Int) (hR : Tab w vr rels) (hS : Tab w vs sub) (hlr : ∀ j, (rels.getD j []).length ≤ 100000) (hsm : ∀ j, (sub.getD j []).length ≤ 100000) (hsl : sub.length ≤ 1000000) (hlim : limit ≤ 1000 ∨ 20000 < limit) :
    Calls Try.prog 88 #[.agg #[.int .i64 g, vr], vs, .int .i64 limit] w (LookPost g rels sub limit w) := by
  obtain ⟨Ar, cr, rfl⟩ := Tab.form hR
  obtain ⟨As, cs, rfl⟩ := Tab.form hS
  have HP : Hid (∀ W, W = (w.alloc (.cells #[.int .i64 g, .slice Ar rels.length cr] 40)).alloc (.cells #[.int .i64 0, .int .i64 0, .int .i64 0] 49) → Below w.heap.size w W ∧ W.heap[w.heap.size]? = some (.cells #[.int .i64 g, .slice Ar rels.length cr] 40 (0, 0)) ∧ NumC (w.heap.size + 1) W 0 0 0 ∧ W.heap.size = w.heap.size + 2) := Lib.hid fun W h => by
    subst h
    refine ⟨((Below.refl _ _).alloc (Nat.le_refl _) _).alloc (by simp) _, (Below.heap_alloc _ _ _ (by simp)).trans (heap_alloc_new w _), ?_, by simp⟩
    constructor <;> simp [go_sem]
  have HRR := Lib.hid hR
  have HSS := Lib.hid hS
  have H87 : Hid (∀ W, Tab W (.slice Ar rels.length cr) rels → Tab W (.slice As sub.length cs) sub → Calls Try.prog 111 #[.agg #[.int .i64 g, .slice Ar rels.length cr], .slice As sub.length cs, .int .i64 limit] W fun e w' => e = .returned (.int .i64 (givenE g rels sub limit)) ∧ Below W.heap.size W w') := Lib.hid fun W h1 h2 => given87_any W _ _ g rels sub limit h1 h2 hsm hlr hsl
  clear hR hS
  go_enter Try.func88, Try.ntmps88
  go_wp2_with fail
  generalize hw0 : (w.alloc (.cells #[.int .i64 g, .slice Ar rels.length cr] 40)).alloc (.cells #[.int .i64 0, .int .i64 0, .int .i64 0] 49) = w0 at *
  obtain ⟨hb0, hbx, hnc, hsz⟩ := HP.out w0 rfl
  have HB0 := Lib.hid hb0
  have HSZ := Lib.hid hsz
  have HBX : Hid (∀ W, Below w0.heap.size w0 W → W.cell? ⟨w.heap.size, 0, none⟩ = some (.int .i64 g) ∧ W.cell? ⟨w.heap.size, 1, none⟩ = some (.slice Ar rels.length cr) ∧ NumC (w.heap.size + 1) W 0 0 0 ∧ Tab W (.slice Ar rels.length cr) rels ∧ Tab W (.slice As sub.length cs) sub ∧ Below w.heap.size w W) := Lib.hid fun W h => by
    obtain ⟨a, b⟩ := cell_of2 ((h.block _ (by omega)).trans hbx)
    have h1 : Below w.heap.size w W := hb0.trans (h.mono hb0.size)
    exact ⟨a, b, hnc.below (by omega) h, kept_tab.below HRR.out h1, kept_tab.below HSS.out h1, h1⟩
  obtain ⟨hc0, hc1, -⟩ := HBX.out w0 (Below.refl _ _)
  have H87' := Lib.hid (H87.out w0 (kept_tab.below HRR.out HB0.out) (kept_tab.below HSS.out HB0.out))
  clear hw0 hb0 hbx hnc hsz HP H87
  by_cases he : givenE g rels sub limit = 0
  · obtain ⟨gn, lim, rfl, rfl, hg1, hg16, hrl, hrg, hlo, hso, hsl2, hl1, hl2⟩ := givenE_all he
    have hlim2 : lim ≤ 1000 := by omega
    have HE := Lib.hid he
    have HRG := Lib.hid hrg
    have HLO := Lib.hid hlo
    have HSO := Lib.hid hso
    rw [he] at H87'
    clear he hlim hrg hlo hso
    have hb179 := build179
    have HBG : Hid (∀ W, Calls Try.prog 112 #[.int .i64 (gn : Int), .int .i64 (lim : Int)] W fun e w' => e = .returned (.pointer (some ⟨W.heap.size, 0, none⟩)) ∧ StR W.heap.size W.heap.size lim w' (startS (2 * gn)) ∧ Kf W.heap.size W w') := Lib.hid fun W => begin88_any gn lim hg16 hg1 W
    generalize hQ : w.heap.size = Q at *
    have HQ := Lib.hid hQ
    clear hQ
    go_wp2_with (go_at_call 111; (with_reducible refine H87'.out.mono ?_); rintro e w1 ⟨rfl, hb⟩
                 have HB1 := Lib.hid hb
                 obtain ⟨hc0', hc1', -⟩ := HBX.out _ hb
                 clear hb)
    go_region_held3 (fun w' => w'.cell? ⟨Q, 0, none⟩ = some (.int .i64 (gn : Int)) ∧ w'.cell? ⟨Q, 1, none⟩ = some (.slice Ar rels.length cr)) (first | (with_reducible exact HSQ.out) | (with_reducible exact HSQ2.out) | go_keep)
      (first
        | (go_at_call 112; (refine (HBG.out _).mono ?_); rintro e w6 ⟨rfl, hs6, hk6⟩
           have hb6 : Below w1.heap.size w1 w6 := (Below.refl _ w1).drew.trans hk6.1
           have HB6 := Lib.hid hb6
           have HS6 : Hid (StR w1.heap.size w1.heap.size lim w6 (startS (2 * gn))) := Lib.hid hs6
           obtain ⟨q0, q1, -⟩ := HBX.out _ (HB1.out.trans (hb6.mono HB1.out.size))
           have HSQ := Lib.hid (And.intro q0 q1)
           clear hs6 hk6 hb6))
    have hnw := heap_alloc_new w6 (.cells #[.pointer (some ⟨w1.heap.size, 0, none⟩), .int .i64 (gn : Int), .slice Ar rels.length cr, .int .i64 0, .int .i64 0, .int .i64 0] 179)
    have hbw7 : Below w6.heap.size w6 (w6.alloc (.cells #[.pointer (some ⟨w1.heap.size, 0, none⟩), .int .i64 (gn : Int), .slice Ar rels.length cr, .int .i64 0, .int .i64 0, .int .i64 0] 179)) := (Below.refl _ _).alloc (Nat.le_refl _) _
    generalize w6.alloc (.cells #[.pointer (some ⟨w1.heap.size, 0, none⟩), .int .i64 (gn : Int), .slice Ar rels.length cr, .int .i64 0, .int .i64 0, .int .i64 0] 179) = w7 at *
    have hst7 : StR w1.heap.size w1.heap.size lim w7 (startS (2 * gn)) := HS6.out.below hbw7
    have hlk : LkR (.slice Ar rels.length cr) gn w1.heap.size w1.heap.size w6.heap.size lim w7 (beginL (2 * gn)) := ⟨hst7, HB6.out.size, ⟨hnw⟩, Nat.zero_le _, by
      have h : (startS (2 * gn)).t.length = 1 := by unfold startS; rw [length_add]; rfl
      show (startS (2 * gn)).t.length ≤ 1000
      omega⟩
    have hBY : ∀ W, Below w1.heap.size w7 W → Below w0.heap.size w0 W := fun W h => HB1.out.trans (((HB6.out.trans (hbw7.mono HB6.out.size)).trans h).mono HB1.out.size)
    have HBY : Hid (∀ W, Below w1.heap.size w7 W → W.cell? ⟨Q, 0, none⟩ = some (.int .i64 (gn : Int)) ∧ W.cell? ⟨Q, 1, none⟩ = some (.slice Ar rels.length cr) ∧ NumC (Q + 1) W 0 0 0 ∧ Tab W (.slice Ar rels.length cr) rels ∧ Tab W (.slice As sub.length cs) sub ∧ Below Q w W) := Lib.hid fun W h => HBX.out W (hBY W h)
    have HWR : Hid (∀ W, Below w1.heap.size w7 W → Words w1.heap.size W (.slice Ar rels.length cr) rels) := Lib.hid fun W h => ⟨w1, rfl, (HBX.out w1 HB1.out).2.2.2.1, (HB6.out.trans (hbw7.mono HB6.out.size)).trans h⟩
    have HWS : Hid (∀ W, Below w1.heap.size w7 W → Words w1.heap.size W (.slice As sub.length cs) sub) := Lib.hid fun W h => ⟨w1, rfl, (HBX.out w1 HB1.out).2.2.2.2.1, (HB6.out.trans (hbw7.mono HB6.out.size)).trans h⟩
    have hz7 : w1.heap.size ≤ w7.heap.size := Nat.le_trans HB6.out.size hbw7.size
    have HZQ : Hid (Q + 1 < w1.heap.size) := Lib.hid (by have h1 := HB1.out.size; have h2 := HSZ.out; omega)
    generalize w6.heap.size = bx at *
    generalize w1.heap.size = B at *
    have HLK := Lib.hid hlk
    have HZ7 := Lib.hid hz7
    have HLR : Hid (∀ j, (rels.getD j []).length ≤ 1000000) := Lib.hid fun j => Nat.le_trans (hlr j) (by decide)
    have HTO : Hid (∀ k y, k ≤ sub.length → optTo (subL (2 * gn) lim rels sub) k (beginL (2 * gn)) = some y → LGood gn lim y ∧ y.r = 0 ∧ y.lost = false) := Lib.hid fun k y hk e => by
      have h := subL_to (fun j _ => HLO.out j) (fun j _ => HSO.out j) hl1 hk e
      exact ⟨h.1, h.2.1, h.2.2.1⟩
    have HST : Hid (∀ y, LGood gn lim y → runL (2 * gn) lim rels y = if y.s.t.length ≤ y.r then some y else match stepL (2 * gn) lim rels y with | none => none | some z => runL (2 * gn) lim rels z) := Lib.hid fun y hy => runL_step (rels := rels) (fun j _ => HLO.out j) hy
    have HSG : Hid (∀ y z, LGood gn lim y → y.r < y.s.t.length → stepL (2 * gn) lim rels y = some z → LGood gn lim z ∧ upot lim z < upot lim y) := Lib.hid fun y z hy hx e => by
      have h := step_to (sub := []) (fun j _ => HLO.out j) (fun j hj => absurd hj (by simp)) hy hx e
      exact ⟨h.1, h.2.2.2.2⟩
    have HRE : Hid (∀ y, LGood gn lim y → y.r < y.s.t.length → ∀ k z, k ≤ rels.length → optTo (relL (2 * gn) lim rels) k (clrL y) = some z → LGood gn lim z ∧ (z.lost = false → z.r < z.s.t.length)) := Lib.hid fun y hy hx k z hk e => by
      have h := relL_to (sub := []) (fun j _ => HLO.out j) (fun j hj => absurd hj (by simp)) hy.clr (fun _ => hx) hk e
      exact ⟨h.1.good, h.1.lt⟩
    have HSTEP : Hid (∀ y, stepL (2 * gn) lim rels y = ((optTo (relL (2 * gn) lim rels) rels.length (clrL y)).bind (colsL (2 * gn) lim rels)).map nextL) := Lib.hid fun _ => rfl
    have HEF : Hid (lookS (2 * gn) lim rels sub = none → lookE gn rels sub lim = ([], (0, 0, 0), 12)) := Lib.hid fun h => lookE_full HE.out h
    have HES : Hid (∀ y, lookS (2 * gn) lim rels sub = some y → lookE gn rels sub lim = ((stdE gn (tabS y.s) 0).1, (((y.s.t.length + y.removed : Nat) : Int), y.s.most, (y.looks : Int)), 0)) := Lib.hid fun f h => lookE_some HE.out h
    have HCF : Hid (∀ y, lookS (2 * gn) lim rels sub = some y → LGood gn lim y ∧ Comp gn y.s y.s.t.length) := Lib.hid fun y h => by
      have h2 := coset_of_look hg1 hg16 hl2 hl1 (fun j _ => HLO.out j) (fun j _ => HSO.out j) h
      exact ⟨h2.1, h2.2.1⟩
    have HLS : Hid (lookS (2 * gn) lim rels sub = (optTo (subL (2 * gn) lim rels sub) sub.length (beginL (2 * gn))).bind (runL (2 * gn) lim rels)) := Lib.hid rfl
    have HRLL : Hid (rels.length ≤ 100000) := Lib.hid (by omega)
    have HF9 : Hid (∀ (V : World) (z : LS) (u : Value) (ws : W), LkR (.slice Ar rels.length cr) gn B B bx lim V z → LGood gn lim z → LLive z → Below B w7 V → (∀ W', Below B V W' → IntsAt W' u ws) → LOk gn ws → Calls Try.prog 158 #[.pointer (some ⟨bx, 0, none⟩), u] V fun e w' => ((∃ y, Ct.fillL (2 * gn) lim rels z ws = some y ∧ e = .returned (.bool true) ∧ LkR (.slice Ar rels.length cr) gn B B bx lim w' y) ∨ (Ct.fillL (2 * gn) lim rels z ws = none ∧ e = .returned (.bool false))) ∧ Below B w7 w') := Lib.hid fun V z u ws h1 h2 h3 h4 h5 h6 => (fill158_any (.slice Ar rels.length cr) gn (2 * gn) B B bx lim rfl hg1 hg16 V z rels u ws h1 h2 h3 (Nat.le_trans HZ7.out h4.size) hlim2 HRLL.out (HWR.out V h4) HLO.out h5 h6).mono fun e w' ⟨a, b⟩ => ⟨a, h4.trans b⟩
    have hsb : (0 : Int) ≤ (sub.length : Int) := Int.natCast_nonneg _
    have hsb2 : (sub.length : Int) ≤ 100 := by omega
    have hrb : (0 : Int) ≤ (rels.length : Int) := Int.natCast_nonneg _
    have hrb2 : (rels.length : Int) ≤ 100 := by omega
    clear hlk hnw hbw7 hst7 hz7 hBY hlr hb179 HBG HSQ
    generalize lookS (2 * gn) lim rels sub = F at *
    go_wp2_with fail
    go_loopw [11] (fun i wr => ∃ (k : Nat) (y : LS), i = .int .i64 (k : Int) ∧ k ≤ sub.length ∧ Hid (optTo (subL (2 * gn) lim rels sub) k (beginL (2 * gn)) = some y ∧ LkR (.slice Ar rels.length cr) gn B B bx lim wr y) ∧ Hid (Below B w7 wr)) (fun i _ => sub.length - (intOf i).toNat)
    case atStart => exact ⟨0, beginL (2 * gn), rfl, Nat.zero_le _, Lib.hid ⟨rfl, HLK.out⟩, Lib.hid (Below.refl _ _)⟩
    case round =>
      clear HLK hc0' hc1'
      obtain ⟨k, y, rfl, hk, HI, HB7⟩ := hrel
      have hk0 : (0 : Int) ≤ (k : Int) := Int.natCast_nonneg _
      have HY := Lib.hid (HTO.out k y hk HI.out.1)
      by_cases hlt : k < sub.length
      · have hltI : (k : Int) < (sub.length : Int) := by omega
        obtain ⟨bs, os, cs2, u, hvs, hcell⟩ := (HWS.out wr HB7.out).at_ hlt
        cases hvs
        obtain ⟨hck, hI0⟩ := hcell wr (Below.refl _ _)
        have HFI := Lib.hid (HF9.out wr y u (sub.getD k []) HI.out.2 HY.out.1 (fun _ => by rw [HY.out.2.1]; exact ⟨HY.out.1.good.n1, Ct.rp_zero HY.out.1.good.rest HY.out.1.good.n1⟩) HB7.out (fun W' h => (hcell W' h).2) (HSO.out k))
        have HOP : Hid (optTo (subL (2 * gn) lim rels sub) (k + 1) (beginL (2 * gn)) = Ct.fillL (2 * gn) lim rels y (sub.getD k [])) := Lib.hid (by rw [optTo_succ, HI.out.1]; rfl)
        obtain ⟨Au, cu, rfl, -, -, -⟩ := hI0.open_
        clear hcell hI0
        cases hfs : Ct.fillL (2 * gn) lim rels y (sub.getD k []) with
        | none =>
          have HEN : Hid (lookE gn rels sub lim = ([], (0, 0, 0), 12)) := Lib.hid (HEF.out (by rw [HLS.out, optTo_none (by rw [HOP.out, hfs]) sub.length (by omega)]; rfl))
          rw [hfs] at HFI
          clear hfs
          generalize (sub.getD k []).length = lu at *
          have hfp : Calls Try.prog 158 #[.pointer (some ⟨bx, 0, none⟩), .slice Au lu cu] wr fun e w' => e = .returned (.bool false) ∧ Below B w7 w' := HFI.out.mono fun e w' h => by
            obtain ⟨h, hb⟩ := h
            rcases h with ⟨f', h, -⟩ | ⟨-, h⟩
            · cases h
            · exact ⟨h, hb⟩
          have HFP := Lib.hid hfp
          clear hfp HFI
          go_wp2_with (go_at_call 158; (with_reducible refine HFP.out.mono ?_); rintro e w8 ⟨rfl, hb8⟩
                       obtain ⟨-, -, hnc, -, -, hbw⟩ := HBY.out _ hb8
                       have HNC := Lib.hid (hnc.set 0 0 0)
                       have HBW := Lib.hid hbw
                       obtain ⟨c1, c2, c3, f1, f2, f3⟩ := hnc
                       clear hb8 hbw)
          (try simp only [Exit.inBlock, Exit.then])
          refine bodyPost_ret (res88 (q := Q + 1) HNC.out _ rfl rfl rfl) rfl ?_
          exact LookPost.err HEN.out (by rw [HQ.out]; exact setN_below HBW.out (by omega) _ _ _)
        | some y1 =>
          have HOP2 : Hid (optTo (subL (2 * gn) lim rels sub) (k + 1) (beginL (2 * gn)) = some y1) := Lib.hid (by rw [HOP.out, hfs])
          rw [hfs] at HFI
          have hfp : Calls Try.prog 158 #[.pointer (some ⟨bx, 0, none⟩), .slice Au (sub.getD k []).length cu] wr fun e w' => e = .returned (.bool true) ∧ LkR (.slice Ar rels.length cr) gn B B bx lim w' y1 ∧ Below B w7 w' := HFI.out.mono fun e w' h => by
            obtain ⟨h, hb⟩ := h
            rcases h with ⟨f2, h1, h2, h3⟩ | ⟨h, -⟩
            · cases h1; exact ⟨h2, h3, hb⟩
            · cases h
          have HFP := Lib.hid hfp
          clear hfp HFI hfs
          generalize (sub.getD k []).length = lu at *
          go_wp2_with (go_at_call 158; (with_reducible refine HFP.out.mono ?_); rintro e w8 ⟨rfl, hs8, hk8⟩; have HS8 := Lib.hid hs8; have HK8 := Lib.hid hk8; clear hs8 hk8)
          go_roundw
          case rel => exact ⟨k + 1, y1, by go_num, by omega, Lib.hid ⟨HOP2.out, HS8.out⟩, HK8⟩
          case measure => simp [intOf]; omega
      · obtain rfl : k = sub.length := by omega
        clear hlt hk
        have HFR0 : Hid (F = runL (2 * gn) lim rels y) := Lib.hid (by rw [HLS.out, HI.out.1]; rfl)
        have HI0 : Hid (LGood gn lim y ∧ LkR (.slice Ar rels.length cr) gn B B bx lim wr (clrL y)) := Lib.hid ⟨HY.out.1, by
          have h := HI.out.2
          have e : clrL y = y := by
            obtain ⟨s, r, l, rm, lk⟩ := y
            have h2 : l = false := HY.out.2.2
            rw [h2]; rfl
          rw [e]; exact h⟩
        go_wp2_with fail
        go_loopg [] (upot lim y + 1) (fun n wx => ∃ y1 : LS, Hid (n = upot lim y1 + 1) ∧ Hid (F = runL (2 * gn) lim rels y1) ∧ Hid (LGood gn lim y1 ∧ LkR (.slice Ar rels.length cr) gn B B bx lim wx (clrL y1)) ∧ Hid (Below B w7 wx))
        case atStart => exact ⟨y, Lib.hid rfl, HFR0, HI0, HB7⟩
        case round =>
          clear HI HB7 HFR0 HI0 HY
          obtain ⟨y1, HN, HFR, HI, HB7⟩ := hrel
          have hrun := HST.out y1 HI.out.1
          rw [← HFR.out] at hrun
          have HKD : Hid (∀ q, LkR (.slice Ar rels.length cr) gn B B bx lim (wr.drewN q) (clrL y1) ∧ Below B w7 (wr.drewN q)) := Lib.hid fun q => ⟨HI.out.2.below (below_drewN (Below.refl _ _) q), below_drewN HB7.out q⟩
          obtain ⟨hst, -, hbx, -, hn1⟩ := HI.out.2
          have hn1 : y1.s.t.length ≤ 1000 := hn1
          have hst : StR B B lim wr y1.s := hst
          have hrl1 : rL (clrL y1) = (y1.r : Int) := rfl
          obtain ⟨x0, -, -, x3, -, -, -⟩ := hbx.cells
          rw [hrl1] at x3
          obtain ⟨⟨A2, k2, d0⟩, -⟩ := hst.top
          have hr0 : (0 : Int) ≤ (y1.r : Int) := Int.natCast_nonneg _
          have hn0 : (0 : Int) ≤ (y1.s.t.length : Int) := Int.natCast_nonneg _
          have hnI : (y1.s.t.length : Int) ≤ 1000 := by omega
          by_cases hlt : y1.r < y1.s.t.length
          · rw [if_neg (by omega)] at hrun
            have hltI : (y1.r : Int) < (y1.s.t.length : Int) := by omega
            obtain ⟨gp, cp, y, p1, p2, p3, py⟩ := hst.liveR (r := y1.r) hlt
            clear hst hbx hrl1
            go_wp2_with fail
            go_quiet (fail)
            have HY1 : Hid (LGood gn lim y1 ∧ y1.r < y1.s.t.length) := Lib.hid ⟨HI.out.1, hlt⟩
            have hl8 := HKD.out nq
            have x0' : (wr.drewN nq).cell? ⟨bx, 0, none⟩ = some (.pointer (some ⟨B, 0, none⟩)) := x0
            have x3' : (wr.drewN nq).cell? ⟨bx, 3, none⟩ = some (.int .i64 (y1.r : Int)) := x3
            have p1' : (wr.drewN nq).cell? ⟨B, 1, none⟩ = some (.slice (some ⟨gp, 0, none⟩) y1.s.t.length cp) := p1
            have p2' : (wr.drewN nq).cell? ⟨gp, y1.r, none⟩ = some (.int .i64 (y : Int)) := p2
            have hy0 : (0 : Int) ≤ (y : Int) := Int.natCast_nonneg _
            clear x0 x3 d0 p1 p2 HKD HI HB7
            generalize wr.drewN nq = w8 at *
            have HL8 := Lib.hid hl8
            have HBXB : Hid (B ≤ bx) := Lib.hid hl8.1.2.1
            clear hl8
            by_cases hal1 : y1.s.rp y1.r = y1.r
            · have hne : ((y : Int) != (y1.r : Int)) = false := by
                rw [decide_eq_true hal1, beq_iff_eq] at p3
                rw [p3]; simp
              clear p3 hal1
              go_wp2_with fail
              go_quiet (fail)
              have HL9 : Hid (LkR (.slice Ar rels.length cr) gn B B bx lim (w8.drewN nq) (clrL y1)) := Lib.hid (HL8.out.1.below (below_drewN (Below.refl _ _) _))
              have HB9 : Hid (Below B w7 (w8.drewN nq)) := Lib.hid (below_drewN HL8.out.2 _)
              clear x0' x3' p1' p2' hne HL8
              generalize w8.drewN nq = w9 at *
              go_wp2_with fail
              go_loopw [12] (fun i wx => ∃ (j : Nat) (z : LS), i = .int .i64 (j : Int) ∧ j ≤ rels.length ∧ Hid (optTo (relL (2 * gn) lim rels) j (clrL y1) = some z ∧ LkR (.slice Ar rels.length cr) gn B B bx lim wx z) ∧ Hid (Below B w7 wx)) (fun i _ => rels.length - (intOf i).toNat)
              case atStart => exact ⟨0, clrL y1, rfl, Nat.zero_le _, Lib.hid ⟨rfl, HL9.out⟩, HB9⟩
              case round =>
                clear HL9 HB9
                obtain ⟨j, z, rfl, hj, HI2, HB9⟩ := hrel
                have hj0 : (0 : Int) ≤ (j : Int) := Int.natCast_nonneg _
                have HZ := Lib.hid (HRE.out y1 HY1.out.1 HY1.out.2 j z hj HI2.out.1)
                obtain ⟨hst, -, hbx, -, hnz⟩ := HI2.out.2
                obtain ⟨x0, -, -, x3, -, -, xf⟩ := hbx.cells
                have xf3 := xf 3
                obtain ⟨q0, q1, -⟩ := HBY.out _ HB9.out
                have hzr0 : (0 : Int) ≤ (z.r : Int) := Int.natCast_nonneg _
                have hnz0 : (0 : Int) ≤ (z.s.t.length : Int) := Int.natCast_nonneg _
                have hnzI : (z.s.t.length : Int) ≤ 1000 := by omega
                have hzrr : z.r ≤ 1000 := by have := HZ.out.1.rr; omega
                have hzrI : (z.r : Int) ≤ 1000 := by omega
                clear xf
                by_cases hjl : j < rels.length
                · have hjI : (j : Int) < (rels.length : Int) := by omega
                  cases hlo : z.lost with
                  | true =>
                    have hrz : rL z = -1 - (z.r : Int) := if_pos hlo
                    rw [hrz] at x3
                    obtain ⟨zz, hzz0⟩ : ∃ zz, zz = -1 - (z.r : Int) := ⟨_, rfl⟩
                    rw [← hzz0] at x3
                    have hneg2 : zz < 0 := by omega
                    have hneg3 : -2000 ≤ zz := by omega
                    have hdneg : decide ((0 : Int) ≤ zz) = false := decide_eq_false (by omega)
                    have HZZ : Hid (-1 - zz = (z.r : Int)) := Lib.hid (by omega)
                    clear hrz hzz0
                    have HOPN : Hid (optTo (relL (2 * gn) lim rels) rels.length (clrL y1) = some z) := Lib.hid (opt_stop HI2.out.1 (fun i _ => relL_stop (.inl hlo) i) _ hj)
                    clear hst hbx
                    have HST1 : Hid (stepL (2 * gn) lim rels y1 = some z) := Lib.hid (by rw [HSTEP.out, HOPN.out]; show (colsL (2 * gn) lim rels z).map nextL = some z; rw [colsL_stop (.inl hlo)]; show some (nextL z) = some z; unfold nextL; rw [if_pos hlo])
                    have HZ2 := Lib.hid (HSG.out y1 z HY1.out.1 HY1.out.2 HST1.out)
                    have HFR1 : Hid (F = runL (2 * gn) lim rels z) := Lib.hid (by have h := hrun; rw [HST1.out] at h; exact h)
                    go_wp2_with fail
                    go_quiet (fail)
                    go_wp2_with fail
                    go_quiet (fail)
                    go_wp2_with fail
                    go_roundg (upot lim z + 1)
                    case measure => have := HN.out; have := HZ2.out.2; omega
                    case rel => exact ⟨z, Lib.hid rfl, HFR1, Lib.hid ⟨HZ2.out.1, (HI2.out.2.below (below_drewN (Below.refl _ _) _)).goto (clrL z) rfl rfl rfl _ (by first | exact HZZ.out | rfl)⟩, Lib.hid ((below_drewN HB9.out _).setCell (p := ⟨bx, 3, none⟩) (by exact HBXB.out) _)⟩
                  | false =>
                    have hrz : rL z = (z.r : Int) := if_neg (by rw [hlo]; simp)
                    rw [hrz] at x3
                    have hzl := HZ.out.2 hlo
                    obtain ⟨gp2, cp2, y2, p1, p2, p3, -⟩ := hst.liveR (r := z.r) hzl
                    have hzlI : (z.r : Int) < (z.s.t.length : Int) := by omega
                    have hnn : ¬ (z.r : Int) < 0 := by omega
                    clear hst hbx
                    by_cases hal : z.s.rp z.r = z.r
                    · rw [decide_eq_true hal] at p3
                      obtain ⟨bs, os, cr2, u, hvr, hcell⟩ := (HWR.out wr HB9.out).at_ hjl
                      cases hvr
                      obtain ⟨hck, hI0⟩ := hcell wr (Below.refl _ _)
                      have HCELL := Lib.hid hcell
                      have HFI := Lib.hid (fun q => HF9.out (wr.drewN q) z u (rels.getD j []) (HI2.out.2.below (below_drewN (Below.refl _ _) _)) HZ.out.1 (fun _ => ⟨hzl, hal⟩) (below_drewN HB9.out q) (fun W' h => (HCELL.out W' ((below_drewN (Below.refl _ _) q).trans h)).2) (HLO.out j))
                      have HOP : Hid (optTo (relL (2 * gn) lim rels) (j + 1) (clrL y1) = Ct.fillL (2 * gn) lim rels z (rels.getD j [])) := Lib.hid (by
                        rw [optTo_succ, HI2.out.1]
                        show relL (2 * gn) lim rels j z = _
                        unfold relL
                        rw [if_pos ⟨hlo, hal⟩])
                      obtain ⟨Au, cu, rfl, -, -, -⟩ := hI0.open_
                      clear hcell hI0 hal
                      cases hfs : Ct.fillL (2 * gn) lim rels z (rels.getD j []) with
                      | none =>
                        have HEN : Hid (lookE gn rels sub lim = ([], (0, 0, 0), 12)) := Lib.hid (HEF.out (by
                          have h := hrun
                          rw [HSTEP.out, optTo_none (by rw [HOP.out, hfs]) rels.length (by omega)] at h
                          exact h))
                        rw [hfs] at HFI
                        clear hfs
                        generalize (rels.getD j []).length = lu at *
                        have HFP : Hid (∀ q, Calls Try.prog 158 #[.pointer (some ⟨bx, 0, none⟩), .slice Au lu cu] (wr.drewN q) fun e w' => e = .returned (.bool false) ∧ Below B w7 w') := Lib.hid fun q => (HFI.out q).mono fun e w' h => by
                          obtain ⟨h, hb⟩ := h
                          rcases h with ⟨f', h, -⟩ | ⟨-, h⟩
                          · cases h
                          · exact ⟨h, hb⟩
                        clear HFI
                        go_wp2_with fail
                        go_quiet (fail)
                        go_wp2_with (go_at_call 158; (with_reducible refine (HFP.out _).mono ?_); rintro e w10 ⟨rfl, hb8⟩
                                     obtain ⟨-, -, hnc, -, -, hbw⟩ := HBY.out _ hb8
                                     have HNC := Lib.hid (hnc.set 0 0 0)
                                     have HBW := Lib.hid hbw
                                     obtain ⟨c1, c2, c3, f1, f2, f3⟩ := hnc
                                     clear hb8 hbw)
                        (try simp only [Exit.inBlock, Exit.then])
                        refine bodyPost_ret (res88 (q := Q + 1) HNC.out _ rfl rfl rfl) rfl ?_
                        exact LookPost.err HEN.out (by rw [HQ.out]; exact setN_below HBW.out (by omega) _ _ _)
                      | some z1 =>
                        rw [hfs] at HFI HOP
                        clear hfs
                        generalize (rels.getD j []).length = lu at *
                        have HFP : Hid (∀ q, Calls Try.prog 158 #[.pointer (some ⟨bx, 0, none⟩), .slice Au lu cu] (wr.drewN q) fun e w' => e = .returned (.bool true) ∧ LkR (.slice (some ⟨bs, os, none⟩) rels.length cr) gn B B bx lim w' z1 ∧ Below B w7 w') := Lib.hid fun q => (HFI.out q).mono fun e w' h => by
                          obtain ⟨h, hb⟩ := h
                          rcases h with ⟨f2, h1, h2, h3⟩ | ⟨h, -⟩
                          · cases h1; exact ⟨h2, h3, hb⟩
                          · cases h
                        clear HFI
                        go_wp2_with fail
                        go_quiet (fail)
                        go_wp2_with (go_at_call 158; (with_reducible refine (HFP.out _).mono ?_); rintro e w10 ⟨rfl, hs8, hk8⟩; have HS8 := Lib.hid hs8; have HK8 := Lib.hid hk8; clear hs8 hk8)
                        go_roundw
                        case rel => exact ⟨j + 1, z1, by go_num, by omega, Lib.hid ⟨HOP.out, HS8.out⟩, HK8⟩
                        case measure => simp [intOf]; omega
                    · rw [decide_eq_false hal] at p3
                      have HOPN : Hid (optTo (relL (2 * gn) lim rels) rels.length (clrL y1) = some z) := Lib.hid (opt_stop HI2.out.1 (fun i _ => relL_stop (.inr hal) i) _ hj)
                      have HST1 : Hid (stepL (2 * gn) lim rels y1 = some { z with r := z.r + 1 }) := Lib.hid (by rw [HSTEP.out, HOPN.out]; show (colsL (2 * gn) lim rels z).map nextL = _; rw [colsL_stop (.inr hal)]; show some (nextL z) = _; unfold nextL; rw [if_neg (by rw [hlo]; simp)])
                      have HZ2 := Lib.hid (HSG.out y1 _ HY1.out.1 HY1.out.2 HST1.out)
                      have HFR1 : Hid (F = runL (2 * gn) lim rels { z with r := z.r + 1 }) := Lib.hid (by have h := hrun; rw [HST1.out] at h; exact h)
                      go_wp2_with fail
                      go_quiet (fail)
                      go_wp2_with fail
                      go_quiet (fail)
                      go_wp2_with fail
                      go_roundg (upot lim { z with r := z.r + 1 } + 1)
                      case measure => have := HN.out; have := HZ2.out.2; omega
                      case rel => exact ⟨_, Lib.hid rfl, HFR1, Lib.hid ⟨HZ2.out.1, (HI2.out.2.below (below_drewN (Below.refl _ _) _)).goto (clrL { z with r := z.r + 1 }) rfl rfl rfl _ (by first | rfl | exact (Int.natCast_add _ _).symm)⟩, Lib.hid ((below_drewN HB9.out _).setCell (p := ⟨bx, 3, none⟩) (by exact HBXB.out) _)⟩
                · obtain rfl : rels.length = j := by omega
                  have HOPN : Hid (optTo (relL (2 * gn) lim rels) rels.length (clrL y1) = some z) := Lib.hid HI2.out.1
                  have hjI : ¬ (rels.length : Int) < (rels.length : Int) := by omega
                  cases hlo : z.lost with
                  | true =>
                    have hrz : rL z = -1 - (z.r : Int) := if_pos hlo
                    rw [hrz] at x3
                    obtain ⟨zz, hzz0⟩ : ∃ zz, zz = -1 - (z.r : Int) := ⟨_, rfl⟩
                    rw [← hzz0] at x3
                    have hneg2 : zz < 0 := by omega
                    have hneg3 : -2000 ≤ zz := by omega
                    have hdneg : decide ((0 : Int) ≤ zz) = false := decide_eq_false (by omega)
                    have HZZ : Hid (-1 - zz = (z.r : Int)) := Lib.hid (by omega)
                    clear hrz hzz0
                    clear hst hbx
                    have HST1 : Hid (stepL (2 * gn) lim rels y1 = some z) := Lib.hid (by rw [HSTEP.out, HOPN.out]; show (colsL (2 * gn) lim rels z).map nextL = some z; rw [colsL_stop (.inl hlo)]; show some (nextL z) = some z; unfold nextL; rw [if_pos hlo])
                    have HZ2 := Lib.hid (HSG.out y1 z HY1.out.1 HY1.out.2 HST1.out)
                    have HFR1 : Hid (F = runL (2 * gn) lim rels z) := Lib.hid (by have h := hrun; rw [HST1.out] at h; exact h)
                    go_wp2_with fail
                    go_quiet (fail)
                    go_wp2_with fail
                    go_quiet (fail)
                    go_wp2_with fail
                    go_roundg (upot lim z + 1)
                    case measure => have := HN.out; have := HZ2.out.2; omega
                    case rel => exact ⟨z, Lib.hid rfl, HFR1, Lib.hid ⟨HZ2.out.1, (HI2.out.2.below (below_drewN (Below.refl _ _) _)).goto (clrL z) rfl rfl rfl _ (by first | exact HZZ.out | rfl)⟩, Lib.hid ((below_drewN HB9.out _).setCell (p := ⟨bx, 3, none⟩) (by exact HBXB.out) _)⟩
                  | false =>
                    have hrz : rL z = (z.r : Int) := if_neg (by rw [hlo]; simp)
                    rw [hrz] at x3
                    have hzl := HZ.out.2 hlo
                    obtain ⟨gp2, cp2, y2, p1, p2, p3, -⟩ := hst.liveR (r := z.r) hzl
                    have hzlI : (z.r : Int) < (z.s.t.length : Int) := by omega
                    have hnn : ¬ (z.r : Int) < 0 := by omega
                    clear hst hbx
                    by_cases hal : z.s.rp z.r = z.r
                    · rw [decide_eq_true hal] at p3
                      have HCL : Hid (stepL (2 * gn) lim rels y1 = (colL (2 * gn) lim rels z 0).map nextL) := Lib.hid (by
                        rw [HSTEP.out, HOPN.out]
                        show (colsL (2 * gn) lim rels z).map nextL = _
                        unfold colsL
                        rw [if_pos ⟨hlo, hal⟩])
                      have HCI := Lib.hid (fun (V : World) (hV : Below wr.heap.size wr V) => columns159_any (.slice Ar rels.length cr) gn (2 * gn) B B bx lim rfl hg1 hg16 V z rels (HI2.out.2.below hV) HZ.out.1 (fun _ => ⟨hzl, hal⟩) (Nat.le_trans HZ7.out (Nat.le_trans HB9.out.size hV.size)) hlim2 HRLL.out (HWR.out V (HB9.out.trans (hV.mono (Nat.le_trans HZ7.out HB9.out.size)))) HLO.out)
                      clear hal
                      cases hcl : colL (2 * gn) lim rels z 0 with
                      | none =>
                        have HEN : Hid (lookE gn rels sub lim = ([], (0, 0, 0), 12)) := Lib.hid (HEF.out (by
                          have h := hrun
                          rw [HCL.out, hcl] at h
                          exact h))
                        rw [hcl] at HCI
                        have HFP : Hid (∀ V, Below wr.heap.size wr V → Calls Try.prog 159 #[.pointer (some ⟨bx, 0, none⟩)] V fun e w' => e = .returned (.bool false) ∧ Below B w7 w') := Lib.hid fun V hV => (HCI.out V hV).mono fun e w' h => by
                          obtain ⟨h, hb⟩ := h
                          rcases h with ⟨f', h, -⟩ | ⟨-, h⟩
                          · cases h
                          · exact ⟨h, (HB9.out.trans (hV.mono (Nat.le_trans HZ7.out HB9.out.size))).trans hb⟩
                        clear HCI hcl HCL
                        go_wp2_with fail
                        go_quiet (fail)
                        have hq1 : Below wr.heap.size wr (wr.drewN nq) := below_drewN (Below.refl _ _) _
                        have x0' : (wr.drewN nq).cell? ⟨bx, 0, none⟩ = some (.pointer (some ⟨B, 0, none⟩)) := x0
                        have x3' : (wr.drewN nq).cell? ⟨bx, 3, none⟩ = some (.int .i64 (z.r : Int)) := x3
                        have p1' : (wr.drewN nq).cell? ⟨B, 1, none⟩ = some (.slice (some ⟨gp2, 0, none⟩) z.s.t.length cp2) := p1
                        have p2' : (wr.drewN nq).cell? ⟨gp2, z.r, none⟩ = some (.int .i64 (y2 : Int)) := p2
                        clear x0 x3 p1 p2 q0 q1
                        generalize wr.drewN nq = w10 at *
                        have HQ1 := Lib.hid hq1
                        clear hq1
                        go_wp2_with fail
                        go_still_tail 27, (by kernel_rfl)
                        go_wp2_with (go_at_call 159; (with_reducible refine (HFP.out _ HQ1.out.drew).mono ?_); rintro e w11 ⟨rfl, hb8⟩
                                     obtain ⟨-, -, hnc, -, -, hbw⟩ := HBY.out _ hb8
                                     have HNC := Lib.hid (hnc.set 0 0 0)
                                     have HBW := Lib.hid hbw
                                     obtain ⟨c1, c2, c3, f1, f2, f3⟩ := hnc
                                     clear hb8 hbw)
                        (try simp only [Exit.inBlock, Exit.then])
                        refine bodyPost_ret (res88 (q := Q + 1) HNC.out _ rfl rfl rfl) rfl ?_
                        exact LookPost.err HEN.out (by rw [HQ.out]; exact setN_below HBW.out (by omega) _ _ _)
                      | some z2 =>
                        rw [hcl] at HCI HCL
                        have HST1 : Hid (stepL (2 * gn) lim rels y1 = some (nextL z2)) := Lib.hid HCL.out
                        have HZ2 := Lib.hid (HSG.out y1 _ HY1.out.1 HY1.out.2 HST1.out)
                        have HFR1 : Hid (F = runL (2 * gn) lim rels (nextL z2)) := Lib.hid (by have h := hrun; rw [HST1.out] at h; exact h)
                        have HFP : Hid (∀ V, Below wr.heap.size wr V → Calls Try.prog 159 #[.pointer (some ⟨bx, 0, none⟩)] V fun e w' => e = .returned (.bool true) ∧ LkR (.slice Ar rels.length cr) gn B B bx lim w' z2 ∧ Below B w7 w') := Lib.hid fun V hV => (HCI.out V hV).mono fun e w' h => by
                          obtain ⟨h, hb⟩ := h
                          rcases h with ⟨f2, h1, h2, h3⟩ | ⟨h, -⟩
                          · cases h1
                            exact ⟨h2, h3, (HB9.out.trans (hV.mono (Nat.le_trans HZ7.out HB9.out.size))).trans hb⟩
                          · cases h
                        clear HCI hcl HCL
                        go_wp2_with fail
                        go_quiet (fail)
                        have hq1 : Below wr.heap.size wr (wr.drewN nq) := below_drewN (Below.refl _ _) _
                        have x0' : (wr.drewN nq).cell? ⟨bx, 0, none⟩ = some (.pointer (some ⟨B, 0, none⟩)) := x0
                        have x3' : (wr.drewN nq).cell? ⟨bx, 3, none⟩ = some (.int .i64 (z.r : Int)) := x3
                        have p1' : (wr.drewN nq).cell? ⟨B, 1, none⟩ = some (.slice (some ⟨gp2, 0, none⟩) z.s.t.length cp2) := p1
                        have p2' : (wr.drewN nq).cell? ⟨gp2, z.r, none⟩ = some (.int .i64 (y2 : Int)) := p2
                        clear x0 x3 p1 p2 q0 q1
                        generalize wr.drewN nq = w10 at *
                        have HQ1 := Lib.hid hq1
                        clear hq1
                        go_wp2_with fail
                        go_still_tail 27, (by kernel_rfl)
                        cases hl2 : z2.lost with
                        | true =>
                          have hnx : nextL z2 = z2 := by unfold nextL; rw [if_pos hl2]
                          rw [hnx] at HZ2 HFR1
                          obtain ⟨zz, hzz0⟩ : ∃ zz, zz = -1 - (z2.r : Int) := ⟨_, rfl⟩
                          have HRZ : Hid (rL z2 = zz) := Lib.hid (by rw [hzz0]; exact if_pos hl2)
                          have HZZ : Hid (-1 - zz = (z2.r : Int)) := Lib.hid (by omega)
                          have hneg2 : zz < 0 := by omega
                          clear hzz0 hnx
                          go_wp2_with (go_at_call 159; (with_reducible refine (HFP.out _ HQ1.out.drew).mono ?_); rintro e w11 ⟨rfl, hs11, hb11⟩
                                       obtain ⟨-, -, -, y3, -, -, yf⟩ := hs11.2.2.1.cells
                                       rw [HRZ.out] at y3
                                       have yf3 := yf 3
                                       have hz2b : z2.r ≤ z2.s.t.length := HZ2.out.1.rr
                                       have hz2c : z2.s.t.length ≤ 1000 := hs11.2.2.2.2
                                       have hneg3 : -2000 ≤ zz := by have := HZZ.out; omega
                                       have HS11 := Lib.hid hs11
                                       have HB11 := Lib.hid hb11
                                       clear hs11 hb11 yf)
                          go_roundg (upot lim z2 + 1)
                          case measure => have := HN.out; have := HZ2.out.2; omega
                          case rel => exact ⟨z2, Lib.hid rfl, HFR1, Lib.hid ⟨HZ2.out.1, HS11.out.goto (clrL z2) rfl rfl rfl _ (by first | exact HZZ.out | rfl)⟩, Lib.hid (HB11.out.setCell (p := ⟨bx, 3, none⟩) (by exact HBXB.out) _)⟩
                        | false =>
                          have hnx : nextL z2 = { z2 with r := z2.r + 1 } := by unfold nextL; rw [if_neg (by rw [hl2]; simp)]
                          rw [hnx] at HZ2 HFR1
                          have HRZ : Hid (rL z2 = (z2.r : Int)) := Lib.hid (if_neg (by rw [hl2]; simp))
                          have hz20 : (0 : Int) ≤ (z2.r : Int) := Int.natCast_nonneg _
                          have hnn2 : ¬ (z2.r : Int) < 0 := by omega
                          clear hnx
                          go_wp2_with (go_at_call 159; (with_reducible refine (HFP.out _ HQ1.out.drew).mono ?_); rintro e w11 ⟨rfl, hs11, hb11⟩
                                       obtain ⟨-, -, -, y3, -, -, yf⟩ := hs11.2.2.1.cells
                                       rw [HRZ.out] at y3
                                       have yf3 := yf 3
                                       have hz2c : z2.s.t.length ≤ 1000 := hs11.2.2.2.2
                                       have hz2b : (z2.r : Int) ≤ 1000 := by
                                         have h : z2.r + 1 ≤ z2.s.t.length := HZ2.out.1.rr
                                         omega
                                       have HS11 := Lib.hid hs11
                                       have HB11 := Lib.hid hb11
                                       clear hs11 hb11 yf)
                          go_roundg (upot lim { z2 with r := z2.r + 1 } + 1)
                          case measure => have := HN.out; have := HZ2.out.2; omega
                          case rel => exact ⟨_, Lib.hid rfl, HFR1, Lib.hid ⟨HZ2.out.1, HS11.out.goto (clrL { z2 with r := z2.r + 1 }) rfl rfl rfl _ (by first | rfl | exact (Int.natCast_add _ _).symm)⟩, Lib.hid (HB11.out.setCell (p := ⟨bx, 3, none⟩) (by exact HBXB.out) _)⟩
                    · rw [decide_eq_false hal] at p3
                      have HST1 : Hid (stepL (2 * gn) lim rels y1 = some { z with r := z.r + 1 }) := Lib.hid (by rw [HSTEP.out, HOPN.out]; show (colsL (2 * gn) lim rels z).map nextL = _; rw [colsL_stop (.inr hal)]; show some (nextL z) = _; unfold nextL; rw [if_neg (by rw [hlo]; simp)])
                      have HZ2 := Lib.hid (HSG.out y1 _ HY1.out.1 HY1.out.2 HST1.out)
                      have HFR1 : Hid (F = runL (2 * gn) lim rels { z with r := z.r + 1 }) := Lib.hid (by have h := hrun; rw [HST1.out] at h; exact h)
                      go_wp2_with fail
                      go_quiet (fail)
                      go_wp2_with fail
                      go_quiet (fail)
                      go_wp2_with fail
                      go_roundg (upot lim { z with r := z.r + 1 } + 1)
                      case measure => have := HN.out; have := HZ2.out.2; omega
                      case rel => exact ⟨_, Lib.hid rfl, HFR1, Lib.hid ⟨HZ2.out.1, (HI2.out.2.below (below_drewN (Below.refl _ _) _)).goto (clrL { z with r := z.r + 1 }) rfl rfl rfl _ (by first | rfl | exact (Int.natCast_add _ _).symm)⟩, Lib.hid ((below_drewN HB9.out _).setCell (p := ⟨bx, 3, none⟩) (by exact HBXB.out) _)⟩
            · have hne : ((y : Int) != (y1.r : Int)) = true := by
                rw [decide_eq_false hal1, beq_eq_false_iff_ne] at p3
                simpa using p3
              have hcd : (clrL y1).lost = true ∨ (clrL y1).s.rp (clrL y1).r ≠ (clrL y1).r := .inr hal1
              have HST1 : Hid (stepL (2 * gn) lim rels y1 = some { clrL y1 with r := y1.r + 1 }) := Lib.hid (by
                rw [HSTEP.out, opt_stop (k := 0) (f := relL (2 * gn) lim rels) (s := clrL y1) (s' := clrL y1) rfl (fun i _ => relL_stop hcd i) rels.length (Nat.zero_le _)]
                show (colsL (2 * gn) lim rels (clrL y1)).map nextL = _
                rw [colsL_stop hcd]
                rfl)
              have HZ2 := Lib.hid (HSG.out y1 _ HY1.out.1 HY1.out.2 HST1.out)
              have HFR1 : Hid (F = runL (2 * gn) lim rels { clrL y1 with r := y1.r + 1 }) := Lib.hid (by have h := hrun; rw [HST1.out] at h; exact h)
              obtain ⟨-, -, -, -, -, -, xf⟩ := HL8.out.1.2.2.1.cells
              have xf3 := xf 3
              have hrI : (y1.r : Int) ≤ 1000 := by omega
              clear p3 hal1 hcd xf
              go_wp2_with fail
              go_quiet (fail)
              go_wp2_with fail
              go_roundg (upot lim { clrL y1 with r := y1.r + 1 } + 1)
              case measure =>
                have h1 := HN.out
                have h2 := HZ2.out.2
                rw [h1]
                exact Nat.succ_lt_succ h2
              case rel => exact ⟨_, Lib.hid rfl, HFR1, Lib.hid ⟨HZ2.out.1, (HL8.out.1.below (below_drewN (Below.refl _ _) _)).goto (clrL { clrL y1 with r := y1.r + 1 }) rfl rfl rfl _ (by first | rfl | exact (Int.natCast_add _ _).symm)⟩, Lib.hid ((below_drewN HL8.out.2 _).setCell (p := ⟨bx, 3, none⟩) (by exact HBXB.out) _)⟩
          · rw [if_pos (by omega)] at hrun
            have hltI : ¬ (y1.r : Int) < (y1.s.t.length : Int) := by omega
            have HEN := Lib.hid (HES.out y1 hrun)
            obtain ⟨hg, hcomp⟩ := HCF.out y1 hrun
            have HGD := Lib.hid hg.good
            have HCP := Lib.hid hcomp
            have hrm : y1.removed ≤ 50000 := by
              have h : y1.removed ≤ 1000 * y1.looks := HI.out.2.2.2.2.1
              have := hg.lk
              omega
            have hrm0 : (0 : Int) ≤ (y1.removed : Int) := Int.natCast_nonneg _
            have hrm1 : (y1.removed : Int) ≤ 50000 := by omega
            clear hst hbx hg hcomp hrun
            go_wp2_with fail
            go_quiet (fail)
            go_wp2_with fail
            obtain ⟨hl8, hb8⟩ := HKD.out nq
            generalize wr.drewN nq = w8 at *
            have hs8 : StR B B lim w8 y1.s := hl8.1
            obtain ⟨e0, -, -, -, e4', e5', -⟩ := hl8.2.2.1.cells
            obtain ⟨rm, hrmE⟩ : ∃ rm, rm = y1.removed := ⟨_, rfl⟩
            obtain ⟨lk, hlkE⟩ : ∃ lk, lk = y1.looks := ⟨_, rfl⟩
            have e4 : w8.cell? ⟨bx, 4, none⟩ = some (.int .i64 (rm : Int)) := by rw [hrmE]; exact e4'
            have e5 : w8.cell? ⟨bx, 5, none⟩ = some (.int .i64 (lk : Int)) := by rw [hlkE]; exact e5'
            rw [← hrmE, ← hlkE] at HEN
            rw [← hrmE] at hrm0 hrm1
            clear e4' e5'
            obtain ⟨⟨A8, k8, d8⟩, -, -, m8, -⟩ := hs8.top
            obtain ⟨q0, -⟩ := HBY.out _ hb8
            have HBXB : Hid (B ≤ bx) := Lib.hid hl8.2.1
            have HB8 := Lib.hid hb8
            have H114 : Hid (∀ V, Below w8.heap.size w8 V → Calls Try.prog 114 #[.pointer (some ⟨B, 0, none⟩), .int .i64 (gn : Int)] V fun e w' => ∃ u, e = .returned u ∧ TabB V.heap.size w' u (stdE gn (tabS y1.s) 0).1 ∧ Below V.heap.size V w') := Lib.hid fun V hV => result90_any gn (2 * gn) B B lim rfl hg16 hg1 V y1.s (hs8.below hV) HGD.out HCP.out hl2
            have HKP : Hid (∀ V, Below w8.heap.size w8 V → ∀ b k u, w8.cell? ⟨b, k, none⟩ = some u → V.cell? ⟨b, k, none⟩ = some u) := Lib.hid fun V hV b k u h => (hV.cell (p := ⟨b, k, none⟩) (World.block_lt_of_cell? w8 _ h)).trans h
            have HC8 := Lib.hid (And.intro e0 (And.intro d8 (And.intro e4 (And.intro m8 e5))))
            clear x0 x3 d0 hl8 hb8 hs8 HKD HI HB7 hltI hlt hn1 HN HFR hrm
            generalize hT0 : (stdE gn (tabS y1.s) 0).1 = T0 at *
            generalize hnf : y1.s.t.length = nf at *
            generalize hmo : y1.s.most = mo at *
            clear hT0 hmo hrmE hlkE
            have hws : IntKind.i64.wrap ((nf : Int) + (rm : Int)) = (nf : Int) + (rm : Int) := IntWalk.i64_in _ (by omega)
            have HNE : Hid (Q + 1 ≠ B ∧ Q + 1 ≠ bx) := Lib.hid (by have h1 := HZQ.out; have h2 := HBXB.out; omega)
            go_region_held3 (fun w' => w'.cell? ⟨bx, 0, none⟩ = some (.pointer (some ⟨B, 0, none⟩)) ∧ w'.cell? ⟨Q, 0, none⟩ = some (.int .i64 (gn : Int)) ∧ w'.cell? ⟨B, 0, none⟩ = some (.slice A8 nf k8) ∧ w'.cell? ⟨bx, 4, none⟩ = some (.int .i64 (rm : Int)) ∧ w'.cell? ⟨B, 5, none⟩ = some (.int .i64 mo) ∧ w'.cell? ⟨bx, 5, none⟩ = some (.int .i64 (lk : Int))) (first | (with_reducible exact HSQ.out) | go_keep)
              (first
                | (go_at_call 114; (refine (H114.out _ (Below.refl _ w8).drew).mono ?_); rintro e w12 ⟨u, rfl, ht12, hb⟩
                   have hb12 : Below w8.heap.size w8 w12 := (Below.refl _ w8).drew.trans hb
                   have HB12 := Lib.hid hb12
                   have HT12 := Lib.hid ht12
                   have z0 := HKP.out w12 hb12 _ _ _ HC8.out.1
                   have z1 := HKP.out w12 hb12 _ _ _ HC8.out.2.1
                   have z2 := HKP.out w12 hb12 _ _ _ HC8.out.2.2.1
                   have z3 := HKP.out w12 hb12 _ _ _ HC8.out.2.2.2.1
                   have z4 := HKP.out w12 hb12 _ _ _ HC8.out.2.2.2.2
                   have hbb : Below B w7 w12 := HB8.out.trans (hb12.mono (Nat.le_trans HZ7.out HB8.out.size))
                   obtain ⟨zq, -, hnc, -, -, hbw⟩ := HBY.out _ hbb
                   have HNC := Lib.hid (hnc.set ((nf : Int) + (rm : Int)) mo (lk : Int))
                   have HBW12 := Lib.hid hbw
                   have HSQ : Hid ((((w12.setCell ⟨Q + 1, 0, none⟩ (.int .i64 ((nf : Int) + (rm : Int)))).setCell ⟨Q + 1, 1, none⟩ (.int .i64 mo)).setCell ⟨Q + 1, 2, none⟩ (.int .i64 (lk : Int))).cell? ⟨bx, 0, none⟩ = some (.pointer (some ⟨B, 0, none⟩)) ∧
                     (((w12.setCell ⟨Q + 1, 0, none⟩ (.int .i64 ((nf : Int) + (rm : Int)))).setCell ⟨Q + 1, 1, none⟩ (.int .i64 mo)).setCell ⟨Q + 1, 2, none⟩ (.int .i64 (lk : Int))).cell? ⟨Q, 0, none⟩ = some (.int .i64 (gn : Int)) ∧
                     (((w12.setCell ⟨Q + 1, 0, none⟩ (.int .i64 ((nf : Int) + (rm : Int)))).setCell ⟨Q + 1, 1, none⟩ (.int .i64 mo)).setCell ⟨Q + 1, 2, none⟩ (.int .i64 (lk : Int))).cell? ⟨B, 0, none⟩ = some (.slice A8 nf k8) ∧
                     (((w12.setCell ⟨Q + 1, 0, none⟩ (.int .i64 ((nf : Int) + (rm : Int)))).setCell ⟨Q + 1, 1, none⟩ (.int .i64 mo)).setCell ⟨Q + 1, 2, none⟩ (.int .i64 (lk : Int))).cell? ⟨bx, 4, none⟩ = some (.int .i64 (rm : Int)) ∧
                     (((w12.setCell ⟨Q + 1, 0, none⟩ (.int .i64 ((nf : Int) + (rm : Int)))).setCell ⟨Q + 1, 1, none⟩ (.int .i64 mo)).setCell ⟨Q + 1, 2, none⟩ (.int .i64 (lk : Int))).cell? ⟨B, 5, none⟩ = some (.int .i64 mo) ∧
                     (((w12.setCell ⟨Q + 1, 0, none⟩ (.int .i64 ((nf : Int) + (rm : Int)))).setCell ⟨Q + 1, 1, none⟩ (.int .i64 mo)).setCell ⟨Q + 1, 2, none⟩ (.int .i64 (lk : Int))).cell? ⟨bx, 5, none⟩ = some (.int .i64 (lk : Int))) := Lib.hid
                     ⟨(cell_set (cell_set (cell_set z0 _) _) _).trans (by simp [HNE.out]), (cell_set (cell_set (cell_set zq _) _) _).trans (by simp), (cell_set (cell_set (cell_set z1 _) _) _).trans (by simp [HNE.out]), (cell_set (cell_set (cell_set z2 _) _) _).trans (by simp), (cell_set (cell_set (cell_set z3 _) _) _).trans (by simp), (cell_set (cell_set (cell_set z4 _) _) _).trans (by simp)⟩
                   obtain ⟨c1, c2, c3, f1, f2, f3⟩ := hnc
                   clear hb hb12 ht12 hbb hbw))
            try go_wp2_with fail
            (try simp only [Exit.inBlock, Exit.then])
            refine bodyPost_ret (res88 (q := Q + 1) HNC.out _ rfl rfl rfl) rfl ?_
            unfold LookPost
            rw [HEN.out]
            simp only [Int.natCast_add]
            rw [HQ.out]
            have hz8 : B ≤ w8.heap.size := Nat.le_trans HZ7.out HB8.out.size
            have hzq := HZQ.out
            exact ⟨⟨_, rfl, (setN_tabB HT12.out (by show Q + 1 < w8.heap.size; omega) _ _ _).low (by show Q ≤ w8.heap.size; omega)⟩, setN_below HBW12.out (by omega) _ _ _⟩
  · have HEN := Lib.hid (lookE_bad he)
    have d1 : (givenE g rels sub limit != 0) = true := by simpa using he
    clear he
    generalize givenE g rels sub limit = x at *
    go_wp2_with (first
      | (go_at_call 111; (with_reducible refine H87'.out.mono ?_); rintro e w1 ⟨rfl, hb⟩
         obtain ⟨-, -, hnc, -, -, hbw⟩ := HBX.out _ hb
         have HNC := Lib.hid (hnc.set 0 0 0)
         have HBW := Lib.hid hbw
         obtain ⟨c1, c2, c3, f1, f2, f3⟩ := hnc
         clear hb hbw))
    refine bodyPost_ret (res88 (q := w.heap.size + 1) HNC.out _ rfl rfl rfl) rfl ?_
    exact LookPost.err HEN.out (setN_below HBW.out (by omega) _ _ _)
end Go.Proofs
namespace Go.Proofs
open Go.RowKit Go.Shelf Go.Proofs.Ct Go.Maps
set_option maxRecDepth 100000 in
set_option maxHeartbeats 4000000 in
theorem felschLooks18_walk (w : World) (g : Int) (vr vs : Value) (limit : Int) (rels sub : List W) (hR : Tab w vr rels) (hS : Tab w vs sub) :
    Calls Try.prog 18 #[.agg #[.int .i64 g, vr], vs, .int .i64 limit] w fun e w' => e = .returned (.bool true) ∧ Below w.heap.size w w' := by
  obtain ⟨Ar, cr, rfl⟩ := Tab.form hR
  obtain ⟨As, cs, rfl⟩ := Tab.form hS
  have HP : Hid (∀ W, W = w.alloc (.cells #[.int .i64 g, .slice Ar rels.length cr] 40) → Below w.heap.size w W ∧ W.heap[w.heap.size]? = some (.cells #[.int .i64 g, .slice Ar rels.length cr] 40 (0, 0)) ∧ W.heap.size = w.heap.size + 1) := Lib.hid fun W h => by
    subst h
    exact ⟨(Below.refl _ _).alloc (Nat.le_refl _) _, heap_alloc_new w _, by simp⟩
  have HRR := Lib.hid hR
  have HSS := Lib.hid hS
  clear hR hS
  go_enter Try.func18, Try.ntmps18
  go_wp2_with fail
  generalize hw0 : w.alloc (.cells #[.int .i64 g, .slice Ar rels.length cr] 40) = w0 at *
  obtain ⟨hb0, hbx, hsz⟩ := HP.out w0 rfl
  have HB0 := Lib.hid hb0
  have HLD : Hid (∀ W, Below w0.heap.size w0 W → (Instr.loadAt 40 (.pointer (some ⟨w.heap.size, 0, none⟩))).run Try.prog W = .ok (.agg #[.int .i64 g, .slice Ar rels.length cr]) W) := Lib.hid fun W h => load40 ((h.block _ (by omega)).trans hbx)
  have HTR : Hid (∀ W, Below w0.heap.size w0 W → Tab W (.slice Ar rels.length cr) rels) := Lib.hid fun W h => kept_tab.below HRR.out (hb0.trans (h.mono hb0.size))
  have HTS : Hid (∀ W, Below w0.heap.size w0 W → Tab W (.slice As sub.length cs) sub) := Lib.hid fun W h => kept_tab.below HSS.out (hb0.trans (h.mono hb0.size))
  have HRF := Lib.hid (Below.refl w0.heap.size w0)
  clear hw0 hb0 hbx hsz HP HRR HSS
  have HEND : Hid (∀ W, Below w0.heap.size w0 W → Below w.heap.size w W) := Lib.hid fun W h => HB0.out.trans (h.mono HB0.out.size)
  refine (long78_any w0 _ rels (HTR.out w0 HRF.out)).mono ?_
  rintro e w' ⟨⟨b, rfl, hb1⟩, rfl⟩
  cases b with
  | true =>
    go_wp2_with (go_at_call 79; (refine (awake79_any _).mono ?_); rintro e w3 ⟨rfl, hb⟩
                 have HB := Lib.hid hb
                 clear hb)
    go_ret
    exact ⟨rfl, HEND.out _ HB.out⟩
  | false =>
    have HR1 := Lib.hid (hb1 rfl)
    clear hb1
    go_wp2_with fail
    refine (long78_any _ _ sub (HTS.out _ HRF.out)).mono ?_
    rintro e w' ⟨⟨b, rfl, hb1⟩, rfl⟩
    cases b with
    | true =>
      go_wp2_with (go_at_call 79; (refine (awake79_any _).mono ?_); rintro e w3 ⟨rfl, hb⟩
                   have HB := Lib.hid hb
                   clear hb)
      go_ret
      exact ⟨rfl, HEND.out _ HB.out⟩
    | false =>
      have HS1 := Lib.hid (hb1 rfl)
      clear hb1
      by_cases hlim : 200 < limit ∧ limit ≤ 20000
      · obtain ⟨hl1, hl2⟩ := hlim
        go_wp2_with (go_at_call 79; (refine (awake79_any _).mono ?_); rintro e w3 ⟨rfl, hb⟩
                     have HB := Lib.hid hb
                     clear hb)
        go_ret
        exact ⟨rfl, HEND.out _ HB.out⟩
      · have hor : limit ≤ 200 ∨ (200 < limit ∧ 20000 < limit) := by omega
        have hlm : limit ≤ 1000 ∨ 20000 < limit := by omega
        have HLM := Lib.hid hlm
        have H87 : Hid (∀ W, Below w'.heap.size w' W → Calls Try.prog 87 #[.agg #[.int .i64 g, .slice Ar rels.length cr], .slice As sub.length cs, .int .i64 limit] W (LookPost g rels sub limit W)) := Lib.hid fun W h => look87_B W _ _ g rels sub limit (HTR.out W h) (HTS.out W h) (fun j => by have := HR1.out.2 j; omega) (fun j => by have := HS1.out.2 j; omega) (by have := HS1.out.1; omega) HLM.out
        have H88 : Hid (∀ W, Below w'.heap.size w' W → Calls Try.prog 88 #[.agg #[.int .i64 g, .slice Ar rels.length cr], .slice As sub.length cs, .int .i64 limit] W (LookPost g rels sub limit W)) := Lib.hid fun W h => look88_B W _ _ g rels sub limit (HTR.out W h) (HTS.out W h) (fun j => by have := HR1.out.2 j; omega) (fun j => by have := HS1.out.2 j; omega) (by have := HS1.out.1; omega) HLM.out
        have H34 : Hid (∀ (W : World) (a b : Value), Tab W a (lookE g rels sub limit).1 → Tab W b (lookE g rels sub limit).1 → Calls Try.prog 42 #[a, b] W fun e w'' => e = .returned (.bool true) ∧ ∃ q, w'' = W.drewN q) := Lib.hid fun W a b h1 h2 => (same18_any W a b _ _ h1 h2).mono fun e w'' ⟨h, h'⟩ => ⟨h.trans (ret_bool (decide_eq_true rfl)), h'⟩
        have HAL : Hid (∀ (W : World) (C : Array Value), Below w'.heap.size w' W → Below w'.heap.size w' (W.alloc (.cells C 49))) := Lib.hid fun W C h => h.alloc h.size _
        unfold LookPost at H87 H88
        generalize (lookE g rels sub limit).1 = T at *
        generalize (lookE g rels sub limit).2.1.1 = n1 at *
        generalize (lookE g rels sub limit).2.1.2.1 = n2 at *
        generalize (lookE g rels sub limit).2.1.2.2 = n4 at *
        generalize (lookE g rels sub limit).2.2 = n3 at *
        clear HR1 HS1 HTR HTS hlm HLM
        have hq := eql49g n1 n2 n4
        have hxx : (n3 == n3) = true := by simp
        clear hlim
        rcases hor with hl | ⟨hl, hl2⟩
        all_goals
          go_wp2_with (first
            | ((with_reducible refine wpList_sel 30 ?_); refine wpList_val rfl (r_loadAt 40 (.tmp 3) _ _ rfl rfl (HLD.out _ HRF.out)) ?_)
            | (go_at_call 87; (refine (H87.out _ HRF.out).mono ?_); rintro e w3 ⟨⟨u1, rfl, hx⟩, hb⟩
               have HB3 := Lib.hid hb
               have HC3 := Lib.hid (HAL.out w3 #[.int .i64 n1, .int .i64 n2, .int .i64 n4] hb)
               have HX1 := Lib.hid (kept_tab.below hx.at_ ((Below.refl w3.heap.size w3).alloc (Nat.le_refl _) (.cells #[.int .i64 n1, .int .i64 n2, .int .i64 n4] 49)))
               have HN3 : Hid (∀ W, Below (w3.alloc (.cells #[.int .i64 n1, .int .i64 n2, .int .i64 n4] 49)).heap.size (w3.alloc (.cells #[.int .i64 n1, .int .i64 n2, .int .i64 n4] 49)) W → W.cell? ⟨w3.heap.size, 0, none⟩ = some (.int .i64 n1) ∧ W.cell? ⟨w3.heap.size, 1, none⟩ = some (.int .i64 n2) ∧ W.cell? ⟨w3.heap.size, 2, none⟩ = some (.int .i64 n4)) := Lib.hid fun W h => cells49 ((h.block _ (by simp)).trans (heap_alloc_new w3 _))
               obtain ⟨A1, k1, rfl⟩ := Tab.form HX1.out
               clear hb hx)
            | ((with_reducible refine wpList_sel 38 ?_); refine wpList_val rfl (r_loadAt 40 (.tmp 3) _ _ rfl rfl (HLD.out _ HC3.out)) ?_)
            | (go_at_call 88; (refine (H88.out _ HC3.out).mono ?_); rintro e w4 ⟨⟨u2, rfl, hx⟩, hb⟩
               have HB4 := Lib.hid (HC3.out.trans (hb.mono HC3.out.size))
               have HC4 := Lib.hid (HAL.out w4 #[.int .i64 n1, .int .i64 n2, .int .i64 n4] HB4.out)
               have HD4 := Lib.hid ((Below.refl w4.heap.size w4).alloc (Nat.le_refl _) (.cells #[.int .i64 n1, .int .i64 n2, .int .i64 n4] 49))
               have HX2 := Lib.hid (kept_tab.below hx.at_ HD4.out)
               have HX14 := Lib.hid (kept_tab.below (kept_tab.below HX1.out hb) HD4.out)
               obtain ⟨d1, d2, d3⟩ := HN3.out _ (hb.trans (HD4.out.mono hb.size))
               obtain ⟨A2, k2, rfl⟩ := Tab.form hx.at_
               clear hb hx)
            | (go_at_call 42; (refine (H34.out _ _ _ HX14.out HX2.out).mono ?_); rintro e w5 ⟨rfl, q, rfl⟩
               have HC5 := Lib.hid (below_drewN HC4.out q)
               clear d1 d2 d3)
            | (go_at_call 79; (refine (awake79_any _).mono ?_); rintro e w8 ⟨rfl, hb⟩
               have HB8 := Lib.hid (HC5.out.trans (hb.mono HC5.out.size))
               clear hb))
          go_ret
          exact ⟨rfl, HEND.out _ HB8.out⟩
end Go.Proofs
