/- The reference of Felsch's strategy. -/
import Derived.Test.YtmpnengjboabcaaFrCS26
import Derived.Test.YtmpnengjboabcaaFrCS9
namespace Go.Proofs
open Go.RowKit Go.Shelf Go.Proofs.Ct Go.Maps
theorem res86 {q : Nat} {w : World} {v : Value} {a b c e : Int} (h : NumC q w a b c) (tmps : Array Value) (h6 : tmps[6]? = some v) (h7 : tmps[7]? = some (.pointer (some ⟨q, 0, none⟩))) (h8 : tmps[8]? = some (.int .i64 e)) :
    (results Try.f86 tmps).run Try.prog w = .ok (.tuple #[v, .agg #[.int .i64 a, .int .i64 b, .int .i64 c], .int .i64 e]) w := by
  obtain ⟨c1, c2, c3, -, -, -⟩ := h
  simp [results, Try.results86, go_sem, h6, h7, h8, asAddr, c1, c2, c3]
theorem build169 (l : Int) (w : World) : (Instr.build 169 #[(5, .int .i64 l)]).run Try.prog w = .ok (.agg #[.slice none 0 0, .slice none 0 0, .slice none 0 0, .slice none 0 0, .slice none 0 0, .int .i64 l, .int .i64 0, .int .i64 0]) w := by kernel_rfl
theorem r_build169 {o : Oper} {a : Act} {w : World} (x : Operand) (l : Int) (ho : o.op = .build 169 #[(5, x)]) (hx : a.eval x = .int .i64 l) : (execOp a.eval o).run Try.prog w = .ok (.value (.agg #[.slice none 0 0, .slice none 0 0, .slice none 0 0, .slice none 0 0, .slice none 0 0, .int .i64 l, .int .i64 0, .int .i64 0])) w := by
  have hb := build169 l w
  unfold execOp
  simp only [ho, List.map_toArray, List.map_cons, List.map_nil, hx, Sem.run_bind, hb, Result.andThen_ok]
  rfl
theorem bs167_1 (A : Option Addr) (n c : Nat) (w : World) : (Instr.buildSlice 167 1 #[(0, .slice A n c)]).run Try.prog w = .ok (.slice (some ⟨w.heap.size, 0, none⟩) 1 1) (w.alloc (.cells #[.slice A n c] 31)) := by kernel_rfl
theorem r_bs167_1 {o : Oper} {a : Act} {w : World} (x : Operand) (A : Option Addr) (m c : Nat) (ho : o.op = .buildSlice 167 1 #[(0, x)]) (hx : a.eval x = .slice A m c) : (execOp a.eval o).run Try.prog w = .ok (.value (.slice (some ⟨w.heap.size, 0, none⟩) 1 1)) (w.alloc (.cells #[.slice A m c] 31)) := by
  have hb := bs167_1 A m c w
  unfold execOp
  simp only [ho, List.map_toArray, List.map_cons, List.map_nil, hx, Sem.run_bind, hb, Result.andThen_ok]
  rfl
theorem st167 {w : World} (ad : Addr) (u : Value) (A : Option Addr) (m c : Nat) (hc : w.cell? ad = some u) (hf : w.frozen? ad = false) : (Instr.storeAt 167 (.pointer (some ad)) (.slice A m c)).run Try.prog w = .ok () (w.setCell ad (.slice A m c)) := by
  simp [Instr.storeAt, Instr.sureAddr, go_sem, hc, hf]
/-- one step of completing -/
theorem comp_m {g lim : Nat} {rels : List W} {f : FS} (hlo : ∀ j, LOk g (rels.getD j [])) (hG : FGood g lim f) :
    (openS (2 * g) f.s = none → compF (2 * g) lim (wsF rels) f = some f) ∧
    ∀ r c, openS (2 * g) f.s = some (r, c) → r < f.s.t.length ∧ c < 2 * g ∧ (lim ≤ f.s.t.length → compF (2 * g) lim (wsF rels) f = none) ∧
      (f.s.t.length < lim → compF (2 * g) lim (wsF rels) f = compF (2 * g) lim (wsF rels) (ded (2 * g) (wsF rels) (defF (2 * g) f r c)) ∧ FGood g lim (defF (2 * g) f r c) ∧ FGood g lim (ded (2 * g) (wsF rels) (defF (2 * g) f r c)) ∧ FExt g (defF (2 * g) f r c) (ded (2 * g) (wsF rels) (defF (2 * g) f r c)) ∧ (ded (2 * g) (wsF rels) (defF (2 * g) f r c)).k = [] ∧ (ded (2 * g) (wsF rels) (defF (2 * g) f r c)).s.t.length = f.s.t.length + 1) := by
  have hw : ∀ c, c < 2 * g → ∀ j, j < (wsF rels c).length → LOk g ((wsF rels c).getD j []) := fun c _ => wsF_ok (fun j _ => hlo j) c
  have hst := compF_step hw hG
  refine ⟨fun h => by rw [hst, h], fun r c h => ?_⟩
  rw [h] at hst
  simp only at hst
  obtain ⟨h1, h2, h3, h4⟩ := openS_some h
  refine ⟨h1, h3, fun hl => by rw [hst, if_pos hl], fun hl => ?_⟩
  obtain ⟨k1, -⟩ := hG.defn h1 h3 h2 h4 hl
  obtain ⟨d1, d2⟩ := ded_F hw k1.rest
  exact ⟨by rw [hst, if_neg (by omega)], k1, k1.ext d1, d1, d2, by rw [d1.n]; exact length_def (2 * g) r c⟩
theorem own_cellE {base n e : Nat} {W : World} {v : Value} {xs : List Value} (h : W.ownsRow base e 1 v n xs) (hn : 0 < n) : ∃ g c, v = .slice (some ⟨g, 0, none⟩) n c ∧ base ≤ g ∧ g < W.heap.size ∧ n ≤ c ∧ ∀ W' : World, W'.heap[g]? = W.heap[g]? → ∀ k u, xs[k]? = some u → W'.cell? ⟨g, k, none⟩ = some u := by
  obtain ⟨hl, h⟩ := h
  rcases h with ⟨-, h0⟩ | ⟨g, cap, cur, rfl, hb, hc, h1, hm, hs, ht⟩
  · omega
  · refine ⟨g, cap, rfl, hb, (Array.getElem?_eq_some_iff.1 hc).1, h1, fun W' hW k u hu => ?_⟩
    rw [cell_of_row _ _ _ _ _ _ (hW.trans hc)]
    have h3 : (cur.toList.take (n * 1))[k]? = some u := by rw [ht]; exact hu
    rw [List.getElem?_take] at h3
    split at h3
    · simpa using h3
    · cases h3
theorem StG.nums {K : Nat → Prop} {T : TypeId} {wv : Value} {base b lim : Nat} {w : World} {f : FS} (h : StG K T wv base b lim w f) : w.cell? ⟨b, 6, none⟩ = some (.int .i64 f.s.live) ∧ w.cell? ⟨b, 7, none⟩ = some (.int .i64 f.s.most) := by
  obtain ⟨bl, cs, -, P, vr, vp, vq, vk, hB, -⟩ := h
  exact ⟨hB.cells.2.2.2.2.2.2.1, hB.cells.2.2.2.2.2.2.2⟩
theorem StG.rows {K : Nat → Prop} {T : TypeId} {wv : Value} {base b lim : Nat} {w : World} {f : FS} (h : StG K T wv base b lim w f) : ∃ A c, w.cell? ⟨b, 0, none⟩ = some (.slice A f.s.t.length c) := by
  obtain ⟨bl, cs, -, P, vr, vp, vq, vk, hB, hC, -⟩ := h
  obtain ⟨A, c, rfl⟩ := owns_form hC.out
  exact ⟨A, c, hB.cells.2.2.1⟩
theorem call140 (args : Array Value) (w : World) : (callFunc 140 args).run Try.prog w = .ok (.enter 140 args) w := enters_of Try.func140 (by kernel_rfl) rfl args w
theorem call149 (args : Array Value) (w : World) : (callFunc 149 args).run Try.prog w = .ok (.enter 149 args) w := enters_of Try.func149 (by kernel_rfl) rfl args w
set_option maxRecDepth 100000 in
set_option maxHeartbeats 1000000 in
theorem felsch86_B (w : World) (vr vs : Value) (g : Int) (rels sub : List W) (limit : Int) (hR : Tab w vr rels) (hS : Tab w vs sub) (hlr : ∀ j, (rels.getD j []).length ≤ 100) (hsm : ∀ j, (sub.getD j []).length ≤ 100000) (hsl : sub.length ≤ 1000000) (hlim : limit ≤ 1000 ∨ 20000 < limit) :
    Calls Try.prog 86 #[.agg #[.int .i64 g, vr], vs, .int .i64 limit] w (FelschPost g rels sub limit w) := by
  obtain ⟨Ar, cr, rfl⟩ := Tab.form hR
  obtain ⟨As, cs, rfl⟩ := Tab.form hS
  have HP : Hid (∀ W, W = (w.alloc (.cells #[.int .i64 g, .slice Ar rels.length cr] 40)).alloc (.cells #[.int .i64 0, .int .i64 0, .int .i64 0] 49) → Below w.heap.size w W ∧ W.heap[w.heap.size]? = some (.cells #[.int .i64 g, .slice Ar rels.length cr] 40 (0, 0)) ∧ NumC (w.heap.size + 1) W 0 0 0 ∧ W.heap.size = w.heap.size + 2) := Lib.hid fun W h => by
    subst h
    refine ⟨((Below.refl _ _).alloc (Nat.le_refl _) _).alloc (by simp) _, (Below.heap_alloc _ _ _ (by simp)).trans (heap_alloc_new w _), ?_, by simp⟩
    constructor <;> simp [go_sem]
  have HRR := Lib.hid hR
  have HSS := Lib.hid hS
  have H87 : Hid (∀ W, Tab W (.slice Ar rels.length cr) rels → Tab W (.slice As sub.length cs) sub → Calls Try.prog 111 #[.agg #[.int .i64 g, .slice Ar rels.length cr], .slice As sub.length cs, .int .i64 limit] W fun e w' => e = .returned (.int .i64 (givenE g rels sub limit)) ∧ Below W.heap.size W w') := Lib.hid fun W h1 h2 => given87_any W _ _ g rels sub limit h1 h2 hsm (fun j => Nat.le_trans (hlr j) (by decide)) hsl
  clear hR hS
  go_enter Try.func86, Try.ntmps86
  go_wp2_with fail
  generalize hw0 : (w.alloc (.cells #[.int .i64 g, .slice Ar rels.length cr] 40)).alloc (.cells #[.int .i64 0, .int .i64 0, .int .i64 0] 49) = w0 at *
  obtain ⟨hb0, hbx, hnc, hsz⟩ := HP.out w0 rfl
  have HB0 := Lib.hid hb0
  have HSZ := Lib.hid hsz
  have HBX : Hid (∀ W, Below w0.heap.size w0 W → W.cell? ⟨w.heap.size, 0, none⟩ = some (.int .i64 g) ∧ W.cell? ⟨w.heap.size, 1, none⟩ = some (.slice Ar rels.length cr) ∧ NumC (w.heap.size + 1) W 0 0 0 ∧ Tab W (.slice Ar rels.length cr) rels ∧ Tab W (.slice As sub.length cs) sub ∧ Below w.heap.size w W) := Lib.hid fun W h => by
    obtain ⟨a, b⟩ := cell_of2 ((h.block _ (by omega)).trans hbx)
    have h1 : Below w.heap.size w W := hb0.trans (h.mono hb0.size)
    exact ⟨a, b, hnc.below (by omega) h, kept_tab.below HRR.out h1, kept_tab.below HSS.out h1, h1⟩
  obtain ⟨hc0, hc1, -⟩ := HBX.out w0 (Below.refl _ _)
  have H87' := Lib.hid (H87.out w0 (kept_tab.below HRR.out HB0.out) (kept_tab.below HSS.out HB0.out))
  clear hw0 hb0 hbx hnc hsz HP H87
  by_cases he : givenE g rels sub limit = 0
  · obtain ⟨gn, lim, rfl, rfl, hg1, hg16, hrl, hrg, hlo, hso, hsl2, hl1, hl2⟩ := givenE_all he
    have hlim2 : lim ≤ 1000 := by omega
    have HE := Lib.hid he
    have HRG := Lib.hid hrg
    have HLO := Lib.hid hlo
    have HSO := Lib.hid hso
    rw [he] at H87'
    clear he hlim hrg hlo hso
    go_wp2_with (first
      | (go_at_call 111; (with_reducible refine H87'.out.mono ?_); rintro e w1 ⟨rfl, hb⟩
         have HB1 := Lib.hid hb
         obtain ⟨hc0', hc1', -⟩ := HBX.out _ hb
         clear hb)
      | ((with_reducible refine wpList_sel 28 ?_); refine wpList_val rfl (r_build169 (.tmp 27) (lim : Int) rfl rfl) ?_))
    obtain ⟨Bq, hBq⟩ : ∃ Bq, Bq = w1.heap.size := ⟨_, rfl⟩
    have hWI : WrdQ Bq lim 0 (wsF rels) (fun _ => .slice none 0 0) w1 (w1.alloc (.cells #[.slice none 0 0, .slice none 0 0, .slice none 0 0, .slice none 0 0, .slice none 0 0, .int .i64 (lim : Int), .int .i64 0, .int .i64 0] 169)) := by
      rw [hBq]
      exact ⟨(Below.refl _ _).alloc (Nat.le_refl _) _, by simp, none, 0, heap_alloc_new w1 _, fun _ => False, World.ownsRow_nil _ _ _ _, fun k h => h.elim, fun j hj => absurd hj (Nat.not_lt_zero _)⟩
    rw [← hBq]
    generalize w1.alloc (.cells #[.slice none 0 0, .slice none 0 0, .slice none 0 0, .slice none 0 0, .slice none 0 0, .int .i64 (lim : Int), .int .i64 0, .int .i64 0] 169) = w5 at *
    have HWI := Lib.hid hWI
    have HBM := Lib.hid hBq
    have hlr100 : Hid (∀ j, (rels.getD j []).length ≤ 100) := Lib.hid hlr
    have HMR := Lib.hid (mild_rels hg16 HRG.out)
    have HWD : Hid (∀ c W, c ≤ 1000 → Tab W (.slice Ar rels.length cr) rels → Calls Try.prog 140 #[.agg #[.int .i64 (gn : Int), .slice Ar rels.length cr], .int .i64 (letter c)] W fun e w' => (∃ A k, e = .returned (.slice A (wsF rels c).length k) ∧ TabB W.heap.size w' (.slice A (wsF rels c).length k) (wsF rels c)) ∧ Below W.heap.size W w') := Lib.hid fun c W hc h => words140_any W _ rels gn (letter c) h (by have := letter_bd (c := c) (by omega); omega) (by have := letter_bd (c := c) (by omega); omega) HMR.out hlr100.out (by omega)
    clear hWI hBq hlr hc0 hc1 hc0' hc1'
    have hgI : (gn : Int) ≤ 16 := by omega
    have hgI1 : (1 : Int) ≤ (gn : Int) := by omega
    go_loopw [11] (fun i wr => ∃ (c : Nat) (fm : Nat → Value), i = .int .i64 (c : Int) ∧ c ≤ 2 * gn ∧ Hid (WrdQ Bq lim c (wsF rels) fm w1 wr)) (fun i _ => 2 * gn - (intOf i).toNat)
    case atStart => exact ⟨0, _, rfl, Nat.zero_le _, HWI⟩
    case round =>
      clear HWI
      obtain ⟨c, fm, rfl, hc, HWI⟩ := hrel
      have hc0 : (0 : Int) ≤ (c : Int) := Int.natCast_nonneg _
      have HB3W : Hid (Below w0.heap.size w0 wr) := Lib.hid (HB1.out.trans (HWI.out.1.mono (by have := HBM.out; have := HB1.out.size; omega)))
      obtain ⟨hp0, hp1, -⟩ := HBX.out _ HB3W.out
      by_cases hlt : c < 2 * gn
      · have hcI : (c : Int) < 2 * (gn : Int) := by omega
        have HLO3 : Hid (w0.heap.size ≤ wr.heap.size) := Lib.hid HB3W.out.size
        obtain ⟨hq1, hq2, AL, kL, hq3, hq4⟩ := HWI.out
        have HBQ := Lib.hid hq1
        have HZ := Lib.hid hq2
        obtain ⟨LV, hLV⟩ : ∃ LV, LV = Value.slice AL c kL := ⟨_, rfl⟩
        rw [← hLV] at hq3 hq4
        have HBOX := Lib.hid hq3
        have HLQ := Lib.hid hq4
        have HOW : Hid (∀ r, LV.ownBlock = some r → Bq + 1 ≤ r ∧ r < wr.heap.size) := Lib.hid fun r hr => by
          obtain ⟨F, o1, -⟩ := hq4
          exact ⟨(owns_block o1 r hr).1, owns_lt o1 hr⟩
        have HC4 : Hid (∀ W, Below wr.heap.size wr W → W.cell? ⟨Bq, 4, none⟩ = some LV) := Lib.hid fun W hW => by
          have h1 : wr.cell? ⟨Bq, 4, none⟩ = some LV := by rw [cell_of_row _ _ _ _ _ _ hq3]; rfl
          exact (hW.cell (p := ⟨Bq, 4, none⟩) hq2).trans h1
        clear hq1 hq2 hq3 hq4 HWI
        go_wp2_with fail
        refine (wpIn_wide (n := 3)).1 ?_
        refine wpIn_region_all (by kernel_rfl) 14 rfl (fun i => if i < 13 then some (37 + i) else none) (lex_of (by kernel_rfl)) (fun ls W => (ls 10 = false → Below wr.heap.size wr W) ∧ (ls 10 = true → ls 13 = false → Below Bq w1 W ∧ W.heap[Bq]? = wr.heap[Bq]?) ∧ (ls 13 = true → ∃ fm', WrdQ Bq lim (c + 1) (wsF rels) fm' w1 W))
          (WqF Bq c wr.heap.size LV (.agg #[.int .i64 (gn : Int), .slice Ar rels.length cr]) (wsF rels) fm) (WqG Bq wr.heap.size) (dm_inj (by kernel_rfl)) WqF.keep (dm_lt (n := 142) (by kernel_rfl)) ⟨fun _ => (Below.refl _ _).drew, (fun h => by cases h), (fun h => by cases h)⟩ ?_ ?_
        · intro ls q o a w6 hq ho hS hls hcl hP hpre
          have hcases : q = 0 ∨ q = 1 ∨ q = 2 ∨ q = 3 ∨ q = 4 ∨ q = 5 ∨ q = 6 ∨ q = 7 ∨ q = 8 ∨ q = 9 ∨ q = 10 ∨ q = 11 ∨ q = 12 ∨ q = 13 := by
            have : q < 14 := hq
            omega
          rcases hcases with rfl | rfl | rfl | rfl | rfl | rfl | rfl | rfl | rfl | rfl | rfl | rfl | rfl | rfl
          · obtain rfl := Option.some.inj ho
            exact wpOpIn_of rfl rfl (wpW_val (r_move (.tmp 10) rfl (hP.out 10 (dm_out (by kernel_rfl)))) ⟨_, rfl, hS, WqG.same, (fun h => by simp at h), rfl⟩)
          · obtain rfl := Option.some.inj ho
            exact wpOpIn_of rfl rfl (wpW_val (r_move (.tmp 10) rfl (hP.out 10 (dm_out (by kernel_rfl)))) ⟨_, rfl, hS, WqG.same, (fun h => by simp at h), rfl⟩)
          · obtain rfl := Option.some.inj ho
            exact wpOpIn_of rfl rfl (wpW_val (r_nil (.tmp 38) _ rfl (hpre ⟨1, .data⟩ (by simp) rfl).2) ⟨_, rfl, hS, WqG.same, (fun h => by simp at h), rfl⟩)
          · obtain rfl := Option.some.inj ho
            exact wpOpIn_of rfl rfl (wpW_val (r_fld (.tmp 39) _ rfl (hpre ⟨2, .data⟩ (by simp) rfl).2 (fld169_4 Bq _)) ⟨_, rfl, hS, WqG.same, (fun h => by simp at h), rfl⟩)
          · obtain rfl := Option.some.inj ho
            have h10 := not_yet hcl 10 rfl ⟨4, .data⟩ (by simp) rfl hls
            exact wpOpIn_of rfl rfl (wpW_val (r_load1 167 agg167 (.tmp 40) ⟨Bq, 4, none⟩ rfl (hpre ⟨3, .data⟩ (by simp) rfl).2 (HC4.out _ (hS.1 h10))) ⟨_, rfl, hS, WqG.same, (fun h => by simp at h), rfl⟩)
          · obtain rfl := Option.some.inj ho
            have h8 := not_yet hcl 8 rfl ⟨5, .data⟩ (by simp) rfl hls
            have h10 := not_yet hcl 10 rfl ⟨8, .chain⟩ (by simp) rfl h8
            obtain ⟨p0, p1, -⟩ := HBX.out w6 (HB3W.out.trans ((hS.1 h10).mono HLO3.out))
            exact wpOpIn_of rfl rfl (wpW_val (r_loadAt 40 (.tmp 3) _ _ rfl (hP.out 3 (dm_out (by kernel_rfl))) (load40c p0 p1)) ⟨_, rfl, hS, WqG.same, (fun h => by simp at h), rfl⟩)
          · obtain rfl := Option.some.inj ho
            exact wpOpIn_of rfl rfl (wpW_val (r_move (.tmp 11) rfl (hP.out 11 (dm_out (by kernel_rfl)))) ⟨_, rfl, hS, WqG.same, (fun h => by simp at h), rfl⟩)
          · obtain rfl := Option.some.inj ho
            exact wpOpIn_of rfl rfl (wpW_call (R := fun v w' => v = .int .i64 (letter c) ∧ w' = w6) (r_call1 (.tmp 43) _ _ rfl (hpre ⟨6, .data⟩ (by simp) rfl).2 call149) ((letter149_any w6 c (by omega)).mono fun e w' ⟨he, hb⟩ => ⟨_, he, rfl, hb.symm⟩)
              (fun v w'' ⟨hv, hw⟩ => ⟨v, rfl, by rw [hw]; exact hS, by rw [hw]; exact WqG.same, (fun h => by simp at h), hv⟩))
          · obtain rfl := Option.some.inj ho
            have h10 := not_yet hcl 10 rfl ⟨8, .chain⟩ (by simp) rfl hls
            have h13 := not_yet hcl 13 rfl ⟨8, .phase⟩ (by simp) rfl hls
            obtain ⟨-, -, -, p3, -⟩ := HBX.out w6 (HB3W.out.trans ((hS.1 h10).mono HLO3.out))
            have hs6 := (hS.1 h10).size
            exact wpOpIn_of rfl rfl (wpW_call (R := fun v w' => (∃ A k, v = .slice A (wsF rels c).length k ∧ TabB w6.heap.size w' v (wsF rels c)) ∧ Below w6.heap.size w6 w') (r_call2 (.tmp 42) (.tmp 44) _ _ _ rfl (hpre ⟨5, .data⟩ (by simp) rfl).2 (hpre ⟨7, .data⟩ (by simp) rfl).2 call140) ((HWD.out c w6 (by omega) p3).mono fun e w' ⟨⟨A, k, he, ht⟩, hb⟩ => ⟨_, he, ⟨A, k, rfl, ht⟩, hb⟩)
              (fun v w'' ⟨⟨A, k, hv, ht⟩, hb⟩ => ⟨v, rfl, ⟨fun h => (hS.1 h10).trans (hb.mono hs6), fun h => absurd (show ls 10 = true from h) (by rw [h10]; simp), fun h => absurd (show ls 13 = true from h) (by rw [h13]; simp)⟩, WqG.of_below hb, (fun h => by simp at h), ⟨A, _, k, _, hv, fun q hq => ⟨Nat.le_trans hs6 hq.1, hq.2⟩, RdT.of_tabB ht⟩⟩))
          · obtain rfl := Option.some.inj ho
            have h10 := not_yet hcl 10 rfl ⟨9, .data⟩ (by simp) rfl hls
            have h13 := not_yet hcl 13 rfl ⟨9, .phase⟩ (by simp) rfl hls
            obtain ⟨A8, n8, k8, F8, e8, hF8, hr8⟩ := (hpre ⟨8, .data⟩ (by simp) rfl).2
            have e8' : slotv a (some 45) = .slice A8 n8 k8 := e8
            have hr8' : RdT F8 w6 (.slice A8 n8 k8) (wsF rels c) := by rw [← e8']; exact hr8
            have hs6 := (hS.1 h10).size
            have hbl : Below w6.heap.size w6 (w6.alloc (.cells #[.slice A8 n8 k8] 31)) := (Below.refl _ _).alloc (Nat.le_refl _) _
            exact wpOpIn_of rfl rfl (wpW_val (r_bs167_1 (.tmp 45) A8 n8 k8 rfl e8) ⟨_, rfl, ⟨fun h => (hS.1 h10).trans (hbl.mono hs6), fun h => absurd (show ls 10 = true from h) (by rw [h10]; simp), fun h => absurd (show ls 13 = true from h) (by rw [h13]; simp)⟩, WqG.of_below hbl, (fun h => by simp at h), ⟨w6.heap.size, _, F8, rfl, hs6, heap_alloc_new w6 _, rfl, fun q hq => ⟨(hF8 q hq).1, Nat.lt_of_lt_of_le (hF8 q hq).2 hbl.size⟩, hr8'.keep fun q hq => hbl.block q (hF8 q hq).2⟩⟩)
          · obtain rfl := Option.some.inj ho
            have h13 := not_yet hcl 13 rfl ⟨10, .data⟩ (by simp) rfl hls
            have hbw6 := hS.1 hls
            have e4 := (hpre ⟨4, .data⟩ (by simp) rfl).2
            obtain ⟨h9, x9, F9, e9, hl9, hx9, ho9, hF9, hr9⟩ := (hpre ⟨9, .data⟩ (by simp) rfl).2
            obtain ⟨A7, k7, w7, hr7, hL7, hg7⟩ := (HLQ.out.keep hbw6.size (fun k _ h2 => hbw6.block k h2)).push (by omega) (Nat.le_trans HZ.out hbw6.size) ho9 hx9 (fun q hq => ⟨Nat.le_trans HZ.out (hF9 q hq).1, (hF9 q hq).2, fun e => by have := HOW.out q e; have := (hF9 q hq).1; omega⟩) hr9 167
            exact wpOpIn_of rfl rfl (wpW_val (r_app (.tmp 41) (.tmp 46) 167 rfl e4 e9 hr7) ⟨_, rfl, ⟨fun h => by simp at h, fun _ _ => ⟨(HBQ.out.trans (hbw6.mono (by have := HZ.out; omega))).grown hg7 (Nat.le_trans (Nat.le_trans (Nat.le_succ _) HZ.out) hbw6.size) (fun r hr => by have := HOW.out r hr; omega), (hg7.block Bq (Nat.lt_of_lt_of_le HZ.out hbw6.size) (fun e => by have := HOW.out Bq e.symm; omega)).trans (hbw6.block Bq HZ.out)⟩, fun h => absurd (show ls 13 = true from h) (by rw [h13]; simp)⟩, ⟨hg7.size, fun h => absurd rfl h, fun k h1 h2 => hg7.block k h2 (fun e => by have := HOW.out k e.symm; omega)⟩, (fun h => by simp at h), ⟨A7, k7, x9, rfl, hL7⟩⟩)
          · obtain rfl := Option.some.inj ho
            exact wpOpIn_of rfl rfl (wpW_val (r_nil (.tmp 37) _ rfl (hpre ⟨0, .data⟩ (by simp) rfl).2) ⟨_, rfl, hS, WqG.same, (fun h => by simp at h), rfl⟩)
          · obtain rfl := Option.some.inj ho
            exact wpOpIn_of rfl rfl (wpW_val (r_fld (.tmp 48) _ rfl (hpre ⟨11, .data⟩ (by simp) rfl).2 (fld169_4 Bq _)) ⟨_, rfl, hS, WqG.same, (fun h => by simp at h), rfl⟩)
          · obtain rfl := Option.some.inj ho
            obtain ⟨hx10, A7, k7, x9, e10, hL7⟩ := hpre ⟨10, .data⟩ (by simp) rfl
            have e12 := (hpre ⟨12, .data⟩ (by simp) rfl).2
            obtain ⟨hb6, hh6⟩ := hS.2.1 hx10 hls
            have hbx6 := hh6.trans HBOX.out
            have hc6 : w6.cell? ⟨Bq, 4, none⟩ = some LV := by rw [cell_of_row _ _ _ _ _ _ hbx6]; rfl
            have hf6 : w6.frozen? ⟨Bq, 4, none⟩ = false := by simp [World.frozen?, hbx6]
            have hsb : ∀ k, Bq + 1 ≤ k → (w6.setCell ⟨Bq, 4, none⟩ (.slice A7 (c + 1) k7)).heap[k]? = w6.heap[k]? := fun k hk => Below.heap_setCell w6 ⟨Bq, 4, none⟩ (.slice A7 (c + 1) k7) k (by show k ≠ Bq; omega)
            have hss : (w6.setCell ⟨Bq, 4, none⟩ (.slice A7 (c + 1) k7)).heap.size = w6.heap.size := by simp [World.setCell]
            have e10' : slotv a (some 47) = .slice A7 (c + 1) k7 := e10
            have hL7' : LstQ Bq (c + 1) (wsF rels) (fun j => if j = c then x9 else fm j) (.slice A7 (c + 1) k7) w6 := by rw [← e10']; exact hL7
            have hlt6 := (Array.getElem?_eq_some_iff.1 hbx6).1
            refine wpOpIn_of rfl rfl (wpW_skip (r_store1 167 (.tmp 49) (.tmp 47) ⟨Bq, 4, none⟩ LV _ rfl e12 e10' rfl hc6 hf6 (st167 _ LV A7 (c + 1) k7 hc6 hf6)) ⟨undef, rfl, ⟨fun h => absurd (show ls 10 = false from h) (by rw [hx10]; simp), fun _ h => by simp at h, fun _ => ⟨_, hb6.setCell (p := ⟨Bq, 4, none⟩) (Nat.le_refl _) _, by rw [hss]; exact hlt6, A7, k7, ?_, hL7'.keep (Nat.le_of_eq hss.symm) (fun k h1 _ => hsb k h1)⟩⟩, ⟨Nat.le_of_eq hss.symm, fun _ k h1 _ => hsb k h1, fun k h1 _ => hsb k (by have := HZ.out; omega)⟩, fun _ => rfl, rfl⟩)
            simp [World.setCell, Array.getElem?_modify, hbx6]
        · intro ls a w6 hall hS hP hsl
          obtain ⟨fm', hI⟩ := hS.2.2 (hall 13 (by decide))
          obtain ⟨vs, hvs, hfr⟩ := hP.frame 142 rfl
          have HI := Lib.hid hI
          clear hsl hP hall hS hvs hI hp0 hp1
          subst hfr
          dsimp only
          simp only [List.range, List.range.loop, List.map_cons, List.map_nil, List.any_cons, List.any_nil, Nat.reduceAdd, Nat.reduceBEq, Nat.reduceLT, Option.some_beq_some, Option.none_beq_some, Bool.or_false, Bool.false_or, Bool.false_eq_true, if_true, if_false, List.getD_cons_zero, List.getD_cons_succ]
          go_wp2_with fail
          go_roundw
          case rel => exact ⟨c + 1, fm', by go_num, by omega, HI⟩
          case measure => simp [intOf]; omega
      · obtain rfl : c = 2 * gn := by omega
        obtain ⟨hq1, hq2, AL, kL, hq3, F, o1, o2, o3⟩ := HWI.out
        obtain ⟨bw, cw, e4, hbw1, hbw2, hcw, hcells⟩ := own_cellE o1 (by omega)
        obtain ⟨LV, hLV⟩ : ∃ LV, LV = Value.slice AL (2 * gn) kL := ⟨_, rfl⟩
        rw [← hLV] at hq3 e4
        obtain ⟨K, hKd⟩ : ∃ K : Nat → Prop, K = fun k => k = bw ∨ F k := ⟨_, rfl⟩
        have hown : (Value.slice AL (2 * gn) kL).ownBlock = some bw := by rw [← hLV, e4]; rfl
        have hKz : ∀ k, K k → Bq + 1 ≤ k ∧ k < wr.heap.size := fun k hk => by
          rw [hKd] at hk
          rcases hk with hk | hk
          · omega
          · exact ⟨(o2 k hk).1, (o2 k hk).2.1⟩
        have hbq := HBM.out
        have hbw0 : w0.heap.size ≤ Bq := by have := HB1.out.size; omega
        have hst : StGB K 169 LV (fun _ => 0) (fun _ => 0) w0.heap.size Bq lim wr ⟨nilS, []⟩ := ⟨hbw0, [], .slice none 0 0, .slice none 0 0, .slice none 0 0, .slice none 0 0, ⟨hq3⟩, ⟨World.ownsRow_nil _ _ _ _, fun i hi => absurd hi (Nat.not_lt_zero _), fun i j hi => absurd hi (Nat.not_lt_zero _), World.ownsRow_nil _ _ _ _, World.ownsRow_nil _ _ _ _, fun i hi => absurd hi (Nat.not_lt_zero _), fun i hi => absurd hi (Nat.not_lt_zero _), (fun r hr => by cases hr), ⟨rfl, fun x hx => absurd hx (Nat.not_lt_zero _)⟩⟩, World.ownsRow_nil _ _ _ _, ⟨fun k hk => (hKz k hk).2, fun h => by have := (hKz Bq h).1; omega, (fun k hr => by cases hr), (fun k hr => by cases hr), (fun k hr => by cases hr), (fun k hr => by cases hr), fun i hi => absurd hi (Nat.not_lt_zero _)⟩⟩
        have hcol : ColW K w0.heap.size wr (2 * gn) bw cw fm (wsF rels) := ⟨hcw, fun c hc W hW => ⟨hcells W (hW.2 bw (by rw [hKd]; exact .inl rfl)) c _ (by simp [hc]), o3 c hc W fun k hk => hW.2 k (by rw [hKd]; exact .inr hk)⟩⟩
        have HTY : Hid (TyF 169) := Lib.hid ⟨by decide, by decide, by decide⟩
        have HADD := Lib.hid (add150_any K 169 LV (fun _ => 0) (fun _ => 0) gn (2 * gn) w0.heap.size Bq lim (by omega) (by omega) wr ⟨nilS, []⟩ HTY.out (inv_nil gn) hst (Nat.le_trans HB1.out.size (by omega)) (by decide) (by decide) (by decide))
        rw [show (((2 * gn : Nat) : Int)) = 2 * (gn : Int) by omega] at HADD
        have HCOL := Lib.hid hcol
        have HE4 := Lib.hid e4
        have HBW6 : Hid (w0.heap.size ≤ wr.heap.size) := Lib.hid (by omega)
        have HBQ0 := Lib.hid hbw0
        have HFN : Hid (Fine gn (startF (2 * gn))) := Lib.hid (fine_start hg1 hg16)
        have HFG : Hid (FGood gn lim (startF (2 * gn))) := Lib.hid (startF_good hl1)
        have HFS : Hid (felschS (2 * gn) lim rels sub = (optTo (subF (2 * gn) lim rels sub) sub.length (startF (2 * gn))).bind (rndF (2 * gn) lim rels sub)) := Lib.hid rfl
        have HEF : Hid (felschS (2 * gn) lim rels sub = none → felschE gn rels sub lim = ([], (0, 0), 12)) := Lib.hid fun h => felschE_full HE.out h
        have HES : Hid (∀ f, felschS (2 * gn) lim rels sub = some f → felschE gn rels sub lim = ((stdE gn (tabS f.s) 0).1, ((f.s.t.length : Int), f.s.most), 0)) := Lib.hid fun f h => felschE_some HE.out h
        have HCF : Hid (∀ f, felschS (2 * gn) lim rels sub = some f → FGood gn lim f ∧ Coset gn rels sub (stdT (tabS f.s) 0) ∧ stdE gn (tabS f.s) 0 = (stdT (tabS f.s) 0, 0) ∧ (stdT (tabS f.s) 0).length = (liv f.s).length ∧ Comp gn f.s f.s.t.length) := Lib.hid fun f h => coset_of_felsch hg1 hg16 hl2 hl1 (fun j _ => HLO.out j) (fun j _ => HSO.out j) h
        have HWO : Hid (∀ c, ∀ j, j < (wsF rels c).length → LOk gn ((wsF rels c).getD j [])) := Lib.hid fun c => wsF_ok (fun j _ => HLO.out j) c
        have HDD : Hid (∀ W f, Fine gn f → StG K 169 LV w0.heap.size Bq lim W f → Keeps w0.heap.size K wr W → Calls Try.prog 152 #[.pointer (some ⟨Bq, 0, none⟩)] W fun e w' => e = .returned (.tuple #[]) ∧ StG K 169 LV w0.heap.size Bq lim w' (ded (2 * gn) (wsF rels) f) ∧ Keeps w0.heap.size K W w') := Lib.hid fun W f hF hs hK => by
          obtain ⟨bl, cs, hs⟩ := hs
          have hc2 : ColW K w0.heap.size W (2 * gn) bw cw fm (wsF rels) := ⟨HCOL.out.m16, fun c hc W' hW' => HCOL.out.at_ c hc W' (hK.trans hW')⟩
          exact (deduce152_any K 169 LV bl cs gn (2 * gn) w0.heap.size Bq lim rfl W f (wsF rels) (fun c => fm c) bw cw HTY.out hF hs (Nat.le_trans HBW6.out hK.size) HE4.out hc2 (fun c _ => HWO.out c)).mono fun e w' ⟨h1, h2, h3⟩ => ⟨h1, ⟨_, _, h2⟩, h3⟩
        rename World => w6
        clear hq1 hq2 hq3 o1 o2 o3 hst hcol hbw1 hbw2 hcw hcells hKz hown hLV e4 hKd hbq hbw0 HWD HWI
        have hsb : (0 : Int) ≤ (sub.length : Int) := Int.natCast_nonneg _
        have hsb2 : (sub.length : Int) ≤ 100 := by omega
        generalize felschS (2 * gn) lim rels sub = F at *
        go_wp2_with (go_at_call 150; (with_reducible refine HADD.out.mono ?_); rintro e w7 ⟨rfl, hs7, hk7⟩; have HS7 := Lib.hid hs7; have HK7 := Lib.hid hk7; clear hs7 hk7)
        go_loopw [12] (fun i wr => ∃ (k : Nat) (f : FS), i = .int .i64 (k : Int) ∧ k ≤ sub.length ∧ Hid (optTo (subF (2 * gn) lim rels sub) k (startF (2 * gn)) = some f ∧ Fine gn f ∧ FGood gn lim f ∧ StG K 169 LV w0.heap.size Bq lim wr f) ∧ Hid (Keeps w0.heap.size K w6 wr)) (fun i _ => sub.length - (intOf i).toNat)
        case atStart => exact ⟨0, startF (2 * gn), rfl, Nat.zero_le _, Lib.hid ⟨rfl, HFN.out, HFG.out, HS7.out⟩, HK7⟩
        case round =>
          clear HS7 HK7 HFN HFG HADD hp0 hp1
          obtain ⟨k, f, rfl, hk, HI, HK⟩ := hrel
          have hk0 : (0 : Int) ≤ (k : Int) := Int.natCast_nonneg _
          have HB7 : Hid (Below w0.heap.size w0 wr) := Lib.hid (HB3W.out.trans HK.out.1)
          by_cases hlt : k < sub.length
          · have hltI : (k : Int) < (sub.length : Int) := by omega
            obtain ⟨bs, os, rfl, hcell⟩ := HSS.out.cells (by omega)
            obtain ⟨u, hu0, hI0⟩ := hcell k hlt
            have HSB : Hid (∀ W, Below w0.heap.size w0 W → W.cell? ⟨bs, os + k, none⟩ = some u ∧ IntsAt W u (sub.getD k [])) := Lib.hid fun W hW => by
              have hw := (HBX.out _ hW).2.2.2.2.2
              exact ⟨(hw.cell (p := ⟨bs, os + k, none⟩) (World.block_lt_of_cell? w _ hu0)).trans hu0, kept_ints.below hI0 hw⟩
            have hck := (HSB.out _ HB7.out).1
            obtain ⟨hop, hF1, hG1, hS1⟩ := HI.out
            have HFI : Hid (Calls Try.prog 151 #[.pointer (some ⟨Bq, 0, none⟩), .int .i64 0, u] wr fun e w' => ((∃ f', fillFS (2 * gn) lim f 0 (sub.getD k []) = some f' ∧ e = .returned (.bool true) ∧ StG K 169 LV w0.heap.size Bq lim w' f' ∧ Fine gn f') ∨ (fillFS (2 * gn) lim f 0 (sub.getD k []) = none ∧ e = .returned (.bool false))) ∧ Keeps w0.heap.size K wr w') := Lib.hid (fill151_any K 169 LV gn (2 * gn) w0.heap.size Bq lim rfl wr f u (sub.getD k []) HTY.out hF1 hG1 hS1 (Nat.le_trans HBW6.out HK.out.size) hlim2 hG1.good.n2 (fun W hW => (HSB.out W (HB7.out.trans hW.1)).2) (HSO.out k) hG1.good.n1 (Ct.rp_zero hG1.good.rest hG1.good.n1))
            have HOP : Hid (optTo (subF (2 * gn) lim rels sub) (k + 1) (startF (2 * gn)) = (fillFS (2 * gn) lim f 0 (sub.getD k [])).map (ded (2 * gn) (wsF rels))) := Lib.hid (by rw [optTo_succ, hop]; rfl)
            have HG1 := Lib.hid hG1
            obtain ⟨Au, cu, rfl, -, -, -⟩ := hI0.open_
            clear hcell hop hF1 hG1 hS1 hu0 hI0
            cases hfs : fillFS (2 * gn) lim f 0 (sub.getD k []) with
            | none =>
              have HEN : Hid (felschE gn rels sub lim = ([], (0, 0), 12)) := Lib.hid (HEF.out (by
                rw [HFS.out, optTo_none (by rw [HOP.out, hfs]; rfl) sub.length (by omega)]; rfl))
              rw [hfs] at HFI
              clear hfs
              generalize (sub.getD k []).length = lu at *
              have hfp : Calls Try.prog 151 #[.pointer (some ⟨Bq, 0, none⟩), .int .i64 0, .slice Au lu cu] wr fun e w' => e = .returned (.bool false) ∧ Keeps w0.heap.size K wr w' := HFI.out.mono fun e w' h => by
                obtain ⟨h, hb⟩ := h
                rcases h with ⟨f', h, -⟩ | ⟨-, h⟩
                · cases h
                · exact ⟨h, hb⟩
              have HFP := Lib.hid hfp
              clear hfp HFI
              go_wp2_with (go_at_call 151; (with_reducible refine HFP.out.mono ?_); rintro e w8 ⟨rfl, hk8⟩
                           obtain ⟨-, -, hnc, -, -, hbw⟩ := HBX.out _ (HB7.out.trans hk8.1)
                           have HNC := Lib.hid (hnc.set 0 0 0)
                           have HBW := Lib.hid hbw
                           obtain ⟨c1, c2, c3, f1, f2, f3⟩ := hnc
                           clear hk8 hbw)
              (try simp only [Exit.inBlock, Exit.then])
              refine bodyPost_ret (res86 (q := w.heap.size + 1) HNC.out _ rfl rfl rfl) rfl ?_
              exact FelschPost.err HEN.out (setN_below HBW.out (by omega) _ _ _)
            | some f' =>
              have HOP2 : Hid (optTo (subF (2 * gn) lim rels sub) (k + 1) (startF (2 * gn)) = some (ded (2 * gn) (wsF rels) f')) := Lib.hid (by rw [HOP.out, hfs]; rfl)
              have hsn : Fine gn f' → FGood gn lim f' ∧ FGood gn lim (ded (2 * gn) (wsF rels) f') ∧ Fine gn (ded (2 * gn) (wsF rels) f') := fun hF => sub_next rfl HLO.out (HSO.out k) HG1.out hfs hF
              have HSN := Lib.hid hsn
              rw [hfs] at HFI
              have hfp : Calls Try.prog 151 #[.pointer (some ⟨Bq, 0, none⟩), .int .i64 0, .slice Au (sub.getD k []).length cu] wr fun e w' => e = .returned (.bool true) ∧ StG K 169 LV w0.heap.size Bq lim w' f' ∧ Fine gn f' ∧ Keeps w0.heap.size K wr w' := HFI.out.mono fun e w' h => by
                obtain ⟨h, hb⟩ := h
                rcases h with ⟨f2, h1, h2, h3, h4⟩ | ⟨h, -⟩
                · cases h1; exact ⟨h2, h3, h4, hb⟩
                · cases h
              have HFP := Lib.hid hfp
              clear hfp HFI hfs hsn
              generalize (sub.getD k []).length = lu at *
              go_wp2_with (first
                | (go_at_call 151; (with_reducible refine HFP.out.mono ?_); rintro e w8 ⟨rfl, hs8, hF8, hk8⟩
                   have HK8 := Lib.hid (HK.out.trans hk8)
                   obtain ⟨hg1', hg2', hf2'⟩ := HSN.out hF8
                   have HG2 := Lib.hid hg2'
                   have HF2 := Lib.hid hf2'
                   have HD8 := Lib.hid (HDD.out w8 f' hF8 hs8 HK8.out)
                   clear hs8 hF8 hk8 hg1' hg2' hf2')
                | (go_at_call 152; (with_reducible refine HD8.out.mono ?_); rintro e w9 ⟨rfl, hs9, hk9⟩
                   have HS9 := Lib.hid hs9
                   have HK9 := Lib.hid (HK8.out.trans hk9)
                   clear hs9 hk9))
              go_roundw
              case rel => exact ⟨k + 1, _, by go_num, by omega, Lib.hid ⟨HOP2.out, HF2.out, HG2.out, HS9.out⟩, HK9⟩
              case measure => simp [intOf]; omega
          · obtain rfl : k = sub.length := by omega
            clear hlt hk
            have HFR0 : Hid (F = rndF (2 * gn) lim rels sub f) := Lib.hid (by rw [HFS.out, HI.out.1]; rfl)
            have HI0 : Hid (Fine gn f ∧ FGood gn lim f) := Lib.hid ⟨HI.out.2.1, HI.out.2.2.1⟩
            have HD0 := Lib.hid (HDD.out wr f HI.out.2.1 HI.out.2.2.2 HK.out)
            go_wp2_with (go_at_call 152; (with_reducible refine HD0.out.mono ?_); rintro e w9 ⟨rfl, hs9, hk9⟩
                         have HS9 := Lib.hid hs9
                         have HK9 := Lib.hid (HK.out.trans hk9)
                         clear hs9 hk9)
            go_loopg [13] (rpot lim f + 1) (fun n _ wx => ∃ (f1 : FS) (gq : Nat), n = gq ∧ Hid (F = rndF (2 * gn) lim rels sub f1 ∧ gq = rpot lim f1 + 1) ∧ Hid (Fine gn f1 ∧ FGood gn lim f1 ∧ StG K 169 LV w0.heap.size Bq lim wx (ded (2 * gn) (wsF rels) f1)) ∧ Hid (Keeps w0.heap.size K w6 wx))
            case atStart => exact ⟨f, _, rfl, Lib.hid ⟨HFR0.out, rfl⟩, Lib.hid ⟨HI0.out.1, HI0.out.2, HS9.out⟩, HK9⟩
            case round =>
              clear HI HK HB7 HFR0 HI0 HS9 HK9 HD0
              obtain ⟨f1, gq, hgq, HFE, HI, HK⟩ := hrel
              have HGQ := Lib.hid hgq
              clear hgq
              have hrd := round_m (sub := sub) rfl HLO.out HSO.out HI.out.2.1
              have HRD := Lib.hid hrd.1
              have HRN : Hid (compF (2 * gn) lim (wsF rels) (ded (2 * gn) (wsF rels) f1) = none → felschE gn rels sub lim = ([], (0, 0), 12)) := Lib.hid fun h => HEF.out (HFE.out.1.trans (hrd.2.1 h))
              have HRS := Lib.hid hrd.2.2
              have HI4 : Hid (Fine gn (ded (2 * gn) (wsF rels) f1) ∧ FGood gn lim (ded (2 * gn) (wsF rels) f1) ∧ (ded (2 * gn) (wsF rels) f1).k = [] ∧ StG K 169 LV w0.heap.size Bq lim wr (ded (2 * gn) (wsF rels) f1)) := Lib.hid ⟨HI.out.1.ext HRD.out.2.1, HRD.out.1, HRD.out.2.2, HI.out.2.2⟩
              have HK4 := HK
              clear hrd
              go_wp2_with fail
              go_loopg [13] (lim + 1 - (ded (2 * gn) (wsF rels) f1).s.t.length) (fun n _ wx => ∃ (fx : FS) (gr : Nat), n = gr ∧ Hid (compF (2 * gn) lim (wsF rels) fx = compF (2 * gn) lim (wsF rels) (ded (2 * gn) (wsF rels) f1) ∧ gr = lim + 1 - fx.s.t.length) ∧ Hid (Fine gn fx ∧ FGood gn lim fx ∧ fx.k = [] ∧ StG K 169 LV w0.heap.size Bq lim wx fx) ∧ Hid (Keeps w0.heap.size K w6 wx))
              case atStart => exact ⟨_, _, rfl, Lib.hid ⟨rfl, rfl⟩, HI4, HK4⟩
              case round =>
                clear HI HK HI4 HK4
                obtain ⟨fx, gr, hgr, HCE, HI, HK⟩ := hrel
                have HGR := Lib.hid hgr
                clear hgr
                obtain ⟨bl, cs', hsb1⟩ := HI.out.2.2.2
                have HB7 : Hid (Below w0.heap.size w0 wr) := Lib.hid (HB3W.out.trans HK.out.1)
                have HOP := Lib.hid (open153_any K 169 LV bl cs' gn (2 * gn) w0.heap.size Bq lim rfl hg16 wr fx HTY.out HI.out.2.1.good.rest.inv HI.out.1.n hsb1)
                have hcm := comp_m HLO.out HI.out.2.1
                cases hop : openS (2 * gn) fx.s with
                | some rc =>
                  obtain ⟨r, c⟩ := rc
                  rw [hop] at HOP
                  unfold openV at HOP
                  obtain ⟨hr1, hc1, hfull, hroom⟩ := hcm.2 r c hop
                  have hr0 : (0 : Int) ≤ (r : Int) := Int.natCast_nonneg _
                  have hcc0 : (0 : Int) ≤ (c : Int) := Int.natCast_nonneg _
                  by_cases hl : lim ≤ fx.s.t.length
                  · have HEN := Lib.hid (HRN.out (HCE.out.1.symm.trans (hfull hl)))
                    have HDF := Lib.hid (define154_full K 169 LV bl cs' w0.heap.size Bq lim r c wr fx hsb1 (by have := HI.out.1.n; omega) hl)
                    clear hcm hfull hroom hsb1 hop
                    go_wp2_with (first
                      | (go_at_call 153; (with_reducible refine HOP.out.mono ?_); rintro e w8 ⟨rfl, rfl⟩)
                      | (go_at_call 154; (with_reducible refine HDF.out.mono ?_); rintro e w8 ⟨rfl, q8, rfl⟩
                         obtain ⟨-, -, hnc, -, -, hbw⟩ := HBX.out _ (below_drewN HB7.out q8)
                         have HNC := Lib.hid (hnc.set 0 0 0)
                         have HBW := Lib.hid hbw
                         obtain ⟨c1, c2, c3, f1', f2', f3'⟩ := hnc
                         clear hbw))
                    (try simp only [Exit.inBlock, Exit.then])
                    refine bodyPost_ret (res86 (q := w.heap.size + 1) HNC.out _ rfl rfl rfl) rfl ?_
                    exact FelschPost.err HEN.out (setN_below HBW.out (by omega) _ _ _)
                  · obtain ⟨r1, r2, r3, r4, r5, r6⟩ := hroom (by omega)
                    have HCE2 : Hid (compF (2 * gn) lim (wsF rels) (ded (2 * gn) (wsF rels) (defF (2 * gn) fx r c)) = compF (2 * gn) lim (wsF rels) (ded (2 * gn) (wsF rels) f1)) := Lib.hid (r1.symm.trans HCE.out.1)
                    have hfd : Fine gn (defF (2 * gn) fx r c) := HI.out.1.defn r2.rest (by omega)
                    have HFD := Lib.hid hfd
                    have HR3 := Lib.hid r3
                    have HR4 := Lib.hid r4
                    have HR5 := Lib.hid r5
                    have HR6 := Lib.hid r6
                    have HNL : Hid (fx.s.t.length < lim) := Lib.hid (by omega)
                    have HDF := Lib.hid (define154_any K 169 LV bl cs' gn (2 * gn) w0.heap.size Bq lim r c rfl hg1 hg16 wr fx HTY.out HI.out.2.1.good.rest hsb1 (Nat.le_trans HBW6.out HK.out.size) (by have := HI.out.1.n; omega) hr1 hc1 (by omega) (by omega) (by rw [HI.out.2.2.1]; decide))
                    clear hcm hfull hroom hsb1 hop r1 r2 r3 r4 r5 r6 hfd hl
                    go_wp2_with (first
                      | (go_at_call 153; (with_reducible refine HOP.out.mono ?_); rintro e w8 ⟨rfl, rfl⟩)
                      | (go_at_call 154; (with_reducible refine HDF.out.mono ?_); rintro e w8 ⟨rfl, hs8, hk8⟩
                         have HK8 := Lib.hid (HK.out.trans hk8)
                         have HD8 := Lib.hid (HDD.out w8 _ HFD.out hs8 HK8.out)
                         clear hs8 hk8)
                      | (go_at_call 152; (with_reducible refine HD8.out.mono ?_); rintro e w9 ⟨rfl, hs9, hk9⟩
                         have HS9 := Lib.hid hs9
                         have HK9 := Lib.hid (HK8.out.trans hk9)
                         clear hs9 hk9))
                    go_roundg (lim + 1 - (ded (2 * gn) (wsF rels) (defF (2 * gn) fx r c)).s.t.length)
                    case measure => have := HGR.out; have := HCE.out.2; have := HR6.out; have := HNL.out; omega
                    case rel => exact ⟨_, _, rfl, Lib.hid ⟨HCE2.out, rfl⟩, Lib.hid ⟨HFD.out.ext HR4.out, HR3.out, HR5.out, HS9.out⟩, HK9⟩
                | none =>
                  rw [hop] at HOP
                  unfold openV at HOP
                  have hcf := HCE.out.1.symm.trans (hcm.1 hop)
                  obtain ⟨hG2, hct, hcF, hrx1, hrx2⟩ := HRS.out fx hcf
                  have HG2 := Lib.hid hG2
                  have HCT := Lib.hid hct
                  have HCX := Lib.hid hcF
                  have HRA := Lib.hid hrx1
                  have HRB := Lib.hid hrx2
                  have HF9 := Lib.hid HI.out.1
                  obtain ⟨n2, hn2⟩ : ∃ n2, n2 = fx.s.t.length := ⟨_, rfl⟩
                  have HN2 := Lib.hid hn2
                  have hn20 : (0 : Int) ≤ (n2 : Int) := Int.natCast_nonneg _
                  have hn2I : (n2 : Int) ≤ 1000 := by have := HI.out.1.n; omega
                  have hl9 := HI.out.2.2.2.nums.1
                  have HS9 := Lib.hid HI.out.2.2.2
                  have HK9 := HK
                  clear hcm hop hcf hG2 hct hcF hrx1 hrx2 hsb1 hn2
                  go_wp2_with (go_at_call 153; (with_reducible refine HOP.out.mono ?_); rintro e w8 ⟨rfl, rfl⟩)
                  go_loopw [17] (fun i wx => ∃ r : Nat, i = .int .i64 (r : Int) ∧ r ≤ n2 ∧ Hid (StG K 169 LV w0.heap.size Bq lim wx (chkTo (2 * gn) rels r fx)) ∧ Hid (Keeps w0.heap.size K w6 wx)) (fun i _ => n2 - (intOf i).toNat)
                  case atStart => exact ⟨0, rfl, Nat.zero_le _, HS9, HK9⟩
                  case round =>
                    clear hl9 HS9 HK9 HK HB7 HI HOP
                    obtain ⟨r, rfl, hr, HS, HK⟩ := hrel
                    have hr0 : (0 : Int) ≤ (r : Int) := Int.natCast_nonneg _
                    have HB7 : Hid (Below w0.heap.size w0 wr) := Lib.hid (HB3W.out.trans HK.out.1)
                    have HFX := Lib.hid (HF9.out.ext (HCT.out r (by have := HN2.out; omega)))
                    obtain ⟨hp0, hp1, -⟩ := HBX.out _ HB7.out
                    obtain ⟨Ar9, cr9, hr9⟩ := HS.out.rows
                    rw [(HCT.out r (by have := HN2.out; omega)).n, ← HN2.out] at hr9
                    by_cases hlt : r < n2
                    · have hrI : (r : Int) < (n2 : Int) := by omega
                      have HSC : Hid (Calls Try.prog 155 #[.pointer (some ⟨Bq, 0, none⟩), .int .i64 (r : Int), .slice Ar rels.length cr] wr fun e w' => e = .returned (.tuple #[]) ∧ StG K 169 LV w0.heap.size Bq lim w' (chkTo (2 * gn) rels (r + 1) fx) ∧ Keeps w0.heap.size K w6 w') := Lib.hid (by
                        obtain ⟨bl, cs', hs⟩ := HS.out
                        exact (scans155_any K 169 LV bl cs' gn (2 * gn) w0.heap.size Bq lim r rfl wr (chkTo (2 * gn) rels r fx) (.slice Ar rels.length cr) rels HTY.out HFX.out hs (Nat.le_trans HBW6.out HK.out.size) (fun W' hW' => (HBX.out W' (HB3W.out.trans (HK.out.trans hW').1)).2.2.2.1) (fun j _ => HLO.out j) (by rw [(HCT.out r (by have := HN2.out; omega)).n]; have := HN2.out; omega)).mono fun e w' ⟨h1, h2, h3⟩ => ⟨h1, ⟨_, _, h2⟩, HK.out.trans h3⟩)
                      clear HB7
                      go_wp2_with (go_at_call 155; (with_reducible refine HSC.out.mono ?_); rintro e w10 ⟨rfl, hs10, hk10⟩; have HS10 := Lib.hid hs10; have HK10 := Lib.hid hk10; clear hs10 hk10)
                      go_roundw
                      case rel => exact ⟨r + 1, by go_num, by omega, HS10, HK10⟩
                      case measure => simp [intOf]; omega
                    · obtain rfl : n2 = r := by omega
                      have HSC : Hid (Calls Try.prog 155 #[.pointer (some ⟨Bq, 0, none⟩), .int .i64 0, .slice As sub.length cs] wr fun e w' => e = .returned (.tuple #[]) ∧ StG K 169 LV w0.heap.size Bq lim w' (chkF (2 * gn) rels sub fx) ∧ Keeps w0.heap.size K w6 w') := Lib.hid (by
                        obtain ⟨bl, cs', hs⟩ := HS.out
                        have e : chkF (2 * gn) rels sub fx = scansF (2 * gn) (chkTo (2 * gn) rels n2 fx) 0 sub := by unfold chkF; rw [HN2.out]
                        rw [e]
                        exact (scans155_any K 169 LV bl cs' gn (2 * gn) w0.heap.size Bq lim 0 rfl wr (chkTo (2 * gn) rels n2 fx) (.slice As sub.length cs) sub HTY.out HFX.out hs (Nat.le_trans HBW6.out HK.out.size) (fun W' hW' => (HBX.out W' (HB3W.out.trans (HK.out.trans hW').1)).2.2.2.2.1) (fun j _ => HSO.out j) (by rw [(HCT.out n2 (by have := HN2.out; omega)).n]; exact HG2.out.good.n1)).mono fun e w' ⟨h1, h2, h3⟩ => ⟨h1, ⟨_, _, h2⟩, HK.out.trans h3⟩)
                      have HGX := Lib.hid (HG2.out.ext HCX.out)
                      have HFX2 := Lib.hid (HF9.out.ext HCX.out)
                      clear HB7
                      by_cases hll : (chkF (2 * gn) rels sub fx).s.live = fx.s.live
                      · have HRX := Lib.hid (HFE.out.1.trans (HRA.out hll))
                        have d1 : ((chkF (2 * gn) rels sub fx).s.live == fx.s.live) = true := by rw [hll]; simp
                        generalize chkF (2 * gn) rels sub fx = f3 at *
                        have HEN := Lib.hid (HES.out f3 HRX.out)
                        obtain ⟨hg3, -, hstd, -, hcomp⟩ := HCF.out f3 HRX.out
                        have HG3 := Lib.hid hg3
                        have HC3 := Lib.hid hcomp
                        have hn3 := hg3.good.n2
                        have hn31 := hg3.good.n1
                        clear hll hstd hg3 hcomp
                        go_wp2_with (go_at_call 155; (with_reducible refine HSC.out.mono ?_); rintro e w10 ⟨rfl, hs10, hk10⟩
                                     have hl10 := hs10.nums.1
                                     have hm10 := hs10.nums.2
                                     obtain ⟨bl10, cs10, hs10'⟩ := hs10
                                     obtain ⟨gr10, cr10, v1, v2, v3⟩ := hs10'.view HTY.out HG3.out.good.rest.inv.len (by omega)
                                     obtain ⟨gp, cp, y0, p1, -, -⟩ := hs10'.live (r := 0) (by omega)
                                     have HLV : Hid (∀ r, r < f3.s.t.length → ∃ y : Nat, w10.cell? ⟨gp, r, none⟩ = some (.int .i64 (y : Int)) ∧ (y = r ↔ f3.s.rp r = r)) := Lib.hid fun r hr => by
                                       obtain ⟨gp', cp', y, q1, q2, q3⟩ := hs10'.live hr
                                       rw [p1] at q1
                                       injection q1 with q1
                                       injection q1 with q1 _ _
                                       injection q1 with q1
                                       injection q1 with q1
                                       subst q1
                                       refine ⟨y, q2, ?_⟩
                                       have h1 : (((y : Int) == (r : Int)) = true) ↔ (decide (f3.s.rp r = r) = true) := by rw [q3]
                                       rw [beq_iff_eq, decide_eq_true_iff] at h1
                                       rw [← h1]; omega
                                     have HV2 := Lib.hid v2
                                     have HV3 : Hid (∀ r c, r < f3.s.t.length → c < 2 * gn → w10.cell? ⟨bl10 r, c, none⟩ = some (.int .i64 (f3.s.t.at r c))) := Lib.hid fun r c hr hc => (v3 r c hr hc).1
                                     have HB10 := Lib.hid (HB3W.out.trans hk10.1)
                                     have HK10 := Lib.hid hk10.size
                                     have HV1 := Lib.hid v1
                                     have HP1 := Lib.hid p1
                                     have HM10 := Lib.hid hm10
                                     have hb131 : ∀ w, (Instr.build 131 #[(0, .slice (some ⟨gr10, 0, none⟩) f3.s.t.length cr10), (1, .slice (some ⟨gp, 0, none⟩) f3.s.t.length cp)]).run Try.prog w = .ok (.agg #[.slice (some ⟨gr10, 0, none⟩) f3.s.t.length cr10, .slice (some ⟨gp, 0, none⟩) f3.s.t.length cp, .slice none 0 0, .int .i64 0, .int .i64 0, .int .i64 0, .bool false]) w := fun w => by kernel_rfl
                                     clear hs10' v2 v3 hk10)
                        go_still_tail 9, (by kernel_rfl)
                        go_wp2_with fail
                        have hal : Below w10.heap.size w10 (w10.alloc (.cells #[.slice (some ⟨gr10, 0, none⟩) f3.s.t.length cr10, .slice (some ⟨gp, 0, none⟩) f3.s.t.length cp, .slice none 0 0, .int .i64 0, .int .i64 0, .int .i64 0, .bool false] 131)).drew := ((Below.refl _ _).alloc (Nat.le_refl _) _).drew
                        have hnew : (w10.alloc (.cells #[.slice (some ⟨gr10, 0, none⟩) f3.s.t.length cr10, .slice (some ⟨gp, 0, none⟩) f3.s.t.length cp, .slice none 0 0, .int .i64 0, .int .i64 0, .int .i64 0, .bool false] 131)).drew.heap[w10.heap.size]? = some (.cells #[.slice (some ⟨gr10, 0, none⟩) f3.s.t.length cr10, .slice (some ⟨gp, 0, none⟩) f3.s.t.length cp, .slice none 0 0, .int .i64 0, .int .i64 0, .int .i64 0, .bool false] 131 (0, 0)) := heap_alloc_new w10 _
                        generalize (w10.alloc (.cells #[.slice (some ⟨gr10, 0, none⟩) f3.s.t.length cr10, .slice (some ⟨gp, 0, none⟩) f3.s.t.length cp, .slice none 0 0, .int .i64 0, .int .i64 0, .int .i64 0, .bool false] 131)).drew = w11 at *
                        have HAL := Lib.hid hal
                        have HNEW := Lib.hid hnew
                        have HKP : Hid (∀ W, Below w11.heap.size w11 W → ∀ b k u, w10.cell? ⟨b, k, none⟩ = some u → W.cell? ⟨b, k, none⟩ = some u) := Lib.hid fun W hW b k u h => by
                          have h1 := World.block_lt_of_cell? w10 _ h
                          exact ((hW.cell (p := ⟨b, k, none⟩) (Nat.lt_of_lt_of_le h1 hal.size)).trans (hal.cell (p := ⟨b, k, none⟩) h1)).trans h
                        have H114 : Hid (∀ W, Below w11.heap.size w11 W → Calls Try.prog 114 #[.pointer (some ⟨w10.heap.size, 0, none⟩), .int .i64 (gn : Int)] W fun e w' => ∃ u, e = .returned u ∧ TabB W.heap.size w' u (stdE gn (tabS f3.s) 0).1 ∧ Below W.heap.size W w') := Lib.hid fun W hW => by
                          have hnb : ∀ W', Below w11.heap.size w11 W' → W'.heap[w10.heap.size]? = some (.cells #[.slice (some ⟨gr10, 0, none⟩) f3.s.t.length cr10, .slice (some ⟨gp, 0, none⟩) f3.s.t.length cp, .slice none 0 0, .int .i64 0, .int .i64 0, .int .i64 0, .bool false] 131 (0, 0)) := fun W' h => (h.block _ (Array.getElem?_eq_some_iff.1 HNEW.out).1).trans HNEW.out
                          refine result114_of gn (2 * gn) w10.heap.size lim rfl hg16 hg1 W f3.s gr10 cr10 bl10 cs10 (by rw [cell_of_row _ _ _ _ _ _ (hnb W hW)]; rfl) (fun r hr => HKP.out W hW _ _ _ (HV2.out r hr)) (fun r c hr hc => HKP.out W hW _ _ _ (HV3.out r c hr hc)) (fun W' hW' r hr => ?_) HG3.out.good HC3.out hl2
                          have hW2 := hW.trans (hW'.mono hW.size)
                          obtain ⟨y, y1, y2⟩ := HLV.out r hr
                          exact ⟨y, gp, cp, by rw [cell_of_row _ _ _ _ _ _ (hnb W' hW2)]; rfl, HKP.out W' hW2 _ _ _ y1, y2⟩
                        have hb11 : Below w0.heap.size w0 w11 := HB10.out.trans (hal.mono (Nat.le_trans HB3W.out.size HK10.out))
                        have HB11 := Lib.hid hb11
                        obtain ⟨hg11, -, -, -, -, hw11⟩ := HBX.out _ hb11
                        have HW11 := Lib.hid hw11
                        have hv11 := HKP.out w11 (Below.refl _ _) _ _ _ HV1.out
                        have hm11 := HKP.out w11 (Below.refl _ _) _ _ _ HM10.out
                        have hr10n : (0 : Int) ≤ (f3.s.t.length : Int) := Int.natCast_nonneg _
                        clear hal hnew hb11 hw11 v1 p1 hl10 hm10 hr9 hp0 hp1
                        generalize hT0 : (stdE gn (tabS f3.s) 0).1 = T0 at *
                        generalize hnf : f3.s.t.length = nf at *
                        generalize hmo : f3.s.most = mo at *
                        clear hT0 hnf hmo
                        have HNE : Hid (w.heap.size + 1 ≠ Bq) := Lib.hid (by
                          have h1 := HB1.out.size
                          have h2 := HSZ.out
                          have h3 := HBM.out
                          omega)
                        generalize hQ : w.heap.size = Q at *
                        have HQ := Lib.hid hQ
                        clear hQ
                        go_region_held3 (fun w' => w'.cell? ⟨Q, 0, none⟩ = some (.int .i64 (gn : Int)) ∧ w'.cell? ⟨Bq, 0, none⟩ = some (.slice (some ⟨gr10, 0, none⟩) nf cr10) ∧ w'.cell? ⟨Bq, 7, none⟩ = some (.int .i64 mo)) (first | (with_reducible exact HSQ.out) | go_keep)
                          (first
                            | (go_at_call 114; (refine (H114.out _ (Below.refl _ w11).drew).mono ?_); rintro e w12 ⟨u, rfl, ht12, hb⟩
                               have hb12 : Below w11.heap.size w11 w12 := (Below.refl _ w11).drew.trans hb
                               have HB12 := Lib.hid hb12
                               have HT12 := Lib.hid ht12
                               have r24 := HKP.out w12 hb12 _ _ _ HV1.out
                               have r64 := HKP.out w12 hb12 _ _ _ HM10.out
                               obtain ⟨hcg4, -, hnc4, -⟩ := HBX.out _ (HB11.out.trans (hb12.mono HB11.out.size))
                               have HNC := Lib.hid (hnc4.set nf mo 0)
                               have HSQ : Hid ((((w12.setCell ⟨Q + 1, 0, none⟩ (.int .i64 (nf : Int))).setCell ⟨Q + 1, 1, none⟩ (.int .i64 mo)).setCell ⟨Q + 1, 2, none⟩ (.int .i64 0)).cell? ⟨Q, 0, none⟩ = some (.int .i64 (gn : Int)) ∧
                                 (((w12.setCell ⟨Q + 1, 0, none⟩ (.int .i64 (nf : Int))).setCell ⟨Q + 1, 1, none⟩ (.int .i64 mo)).setCell ⟨Q + 1, 2, none⟩ (.int .i64 0)).cell? ⟨Bq, 0, none⟩ = some (.slice (some ⟨gr10, 0, none⟩) nf cr10) ∧
                                 (((w12.setCell ⟨Q + 1, 0, none⟩ (.int .i64 (nf : Int))).setCell ⟨Q + 1, 1, none⟩ (.int .i64 mo)).setCell ⟨Q + 1, 2, none⟩ (.int .i64 0)).cell? ⟨Bq, 7, none⟩ = some (.int .i64 mo)) := Lib.hid
                                 ⟨(cell_set (cell_set (cell_set hcg4 _) _) _).trans (by simp), (cell_set (cell_set (cell_set r24 _) _) _).trans (by simp [HNE.out]), (cell_set (cell_set (cell_set r64 _) _) _).trans (by simp)⟩
                               obtain ⟨c1, c2, c3, f1', f2', f3'⟩ := hnc4
                               clear hb hb12 ht12))
                        try go_wp2_with fail
                        (try simp only [Exit.inBlock, Exit.then])
                        refine bodyPost_ret (res86 (q := Q + 1) HNC.out _ rfl rfl rfl) rfl ?_
                        unfold FelschPost
                        rw [HEN.out]
                        have hq3 : Q + 1 < w11.heap.size := by
                          have h1 := HB11.out.size
                          have h2 := HSZ.out
                          omega
                        have hW12 : Below Q w w12 := HW11.out.trans (HB12.out.mono (by omega))
                        rw [HQ.out]
                        have hQ3 : Q ≤ w11.heap.size := by omega
                        exact ⟨⟨_, rfl, (setN_tabB HT12.out hq3 nf mo 0).low hQ3⟩, setN_below hW12 (by omega) _ _ _⟩
                      · have HRX := Lib.hid (HRB.out hll)
                        have d1 : ((chkF (2 * gn) rels sub fx).s.live == fx.s.live) = false := by rw [beq_eq_false_iff_ne]; exact hll
                        clear hll
                        go_wp2_with (first
                          | (go_at_call 155; (with_reducible refine HSC.out.mono ?_); rintro e w10 ⟨rfl, hs10, hk10⟩
                             have hl10 := hs10.nums.1
                             have HK10 := Lib.hid hk10
                             have HD10 := Lib.hid (HDD.out w10 _ HFX2.out hs10 hk10)
                             clear hs10 hk10)
                          | (go_at_call 152; (with_reducible refine HD10.out.mono ?_); rintro e w11 ⟨rfl, hs11, hk11⟩
                             have HS11 := Lib.hid hs11
                             have HK11 := Lib.hid (HK10.out.trans hk11)
                             clear hs11 hk11))
                        go_roundg (rpot lim (chkF (2 * gn) rels sub fx) + 1)
                        case measure => have := HGQ.out; have := HFE.out.2; have := HRX.out.2; omega
                        case rel => exact ⟨chkF (2 * gn) rels sub fx, _, rfl, Lib.hid ⟨HFE.out.1.trans HRX.out.1, rfl⟩, Lib.hid ⟨HFX2.out, HGX.out, HS11.out⟩, HK11⟩
  · have HEN := Lib.hid (felschE_bad he)
    have d1 : (givenE g rels sub limit != 0) = true := by simpa using he
    clear he
    generalize givenE g rels sub limit = x at *
    go_wp2_with (first
      | (go_at_call 111; (with_reducible refine H87'.out.mono ?_); rintro e w1 ⟨rfl, hb⟩
         obtain ⟨-, -, hnc, -, -, hbw⟩ := HBX.out _ hb
         have HNC := Lib.hid (hnc.set 0 0 0)
         have HBW := Lib.hid hbw
         obtain ⟨c1, c2, c3, f1, f2, f3⟩ := hnc
         clear hb hbw))
    refine bodyPost_ret (res86 (q := w.heap.size + 1) HNC.out _ rfl rfl rfl) rfl ?_
    exact FelschPost.err HEN.out (setN_below HBW.out (by omega) _ _ _)
end Go.Proofs
