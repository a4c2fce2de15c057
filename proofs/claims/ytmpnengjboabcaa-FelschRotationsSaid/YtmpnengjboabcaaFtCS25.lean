/- felsch.Lookahead. -/
import Derived.Test.YtmpnengjboabcaaFtCS24
namespace Go.Proofs
open Go.RowKit Go.Shelf Go.Proofs.Ct Go.Maps
theorem res87 {q : Nat} {w : World} {v : Value} {a b c e : Int} (h : ResC q w v a b c e) (tmps : Array Value) (h6 : tmps[6]? = some (.pointer (some ⟨q, 0, none⟩))) (h7 : tmps[7]? = some (.pointer (some ⟨q + 1, 0, none⟩))) (h8 : tmps[8]? = some (.pointer (some ⟨q + 1 + 1, 0, none⟩))) :
    (results Try.f87 tmps).run Try.prog w = .ok (.tuple #[v, .agg #[.int .i64 a, .int .i64 b, .int .i64 c], .int .i64 e]) w := by
  obtain ⟨c0, c1, c2, c3, c4, -, -, -, -, -⟩ := h
  simp [results, Try.results87, go_sem, h6, h7, h8, asAddr, c0, c1, c2, c3, c4]
theorem leave87 {q : Nat} {w : World} {v : Value} {a b c e : Int} (h : ResC q w v a b c e) (tmps : Array Value) (h6 : tmps[6]? = some (.pointer (some ⟨q, 0, none⟩))) (h7 : tmps[7]? = some (.pointer (some ⟨q + 1, 0, none⟩))) (h8 : tmps[8]? = some (.pointer (some ⟨q + 1 + 1, 0, none⟩))) {R : Ending → World → Prop}
    (hR : R (.returned (.tuple #[v, .agg #[.int .i64 a, .int .i64 b, .int .i64 c], .int .i64 e])) w) : Leaves Try.prog Try.f87 tmps R [] .returning w := ⟨_, res87 h tmps h6 h7 h8, hR⟩
theorem build176 (v0 v1 v2 v3 v4 v5 v6 v7 : Value) (A : Option Addr) (n c : Nat) (w : World) : (Instr.build 176 #[(0, .agg #[v0, v1, v2, v3, v4, v5, v6, v7]), (1, .slice A n c)]).run Try.prog w = .ok (.agg #[v0, v1, v2, v3, v4, v5, v6, v7, .slice A n c, .int .i64 0, .bool false, .int .i64 0, .int .i64 0]) w := by kernel_rfl
theorem r_build176 {o : Oper} {a : Act} {w : World} (x y : Operand) (v0 v1 v2 v3 v4 v5 v6 v7 : Value) (A : Option Addr) (n c : Nat) (ho : o.op = .build 176 #[(0, x), (1, y)]) (hx : a.eval x = .agg #[v0, v1, v2, v3, v4, v5, v6, v7]) (hy : a.eval y = .slice A n c) : (execOp a.eval o).run Try.prog w = .ok (.value (.agg #[v0, v1, v2, v3, v4, v5, v6, v7, .slice A n c, .int .i64 0, .bool false, .int .i64 0, .int .i64 0])) w := by
  have hb := build176 v0 v1 v2 v3 v4 v5 v6 v7 A n c w
  unfold execOp
  simp only [ho, List.map_toArray, List.map_cons, List.map_nil, hx, hy, Sem.run_bind, hb, Result.andThen_ok]
  rfl
def LookPost (g : Int) (rels sub : List W) (limit : Int) (w : World) (e : Ending) (w' : World) : Prop :=
  (∃ u, e = .returned (.tuple #[u, .agg #[.int .i64 (lookE g rels sub limit).2.1.1, .int .i64 (lookE g rels sub limit).2.1.2.1, .int .i64 (lookE g rels sub limit).2.1.2.2], .int .i64 (lookE g rels sub limit).2.2]) ∧ TabB w.heap.size w' u (lookE g rels sub limit).1) ∧ Below w.heap.size w w'
theorem LookPost.err {g : Int} {rels sub : List W} {limit : Int} {w w' : World} {x : Int} (h : lookE g rels sub limit = ([], (0, 0, 0), x)) (hb : Below w.heap.size w w') : LookPost g rels sub limit w (.returned (.tuple #[.slice none 0 0, .agg #[.int .i64 0, .int .i64 0, .int .i64 0], .int .i64 x])) w' := by
  unfold LookPost
  rw [h]
  exact ⟨⟨_, rfl, TabB.nil⟩, hb⟩
theorem ResC.setN {q : Nat} {w : World} {v : Value} {a b c e : Int} (h : ResC q w v a b c e) (a' b' c' : Int) : ResC q (((w.setCell ⟨q + 1, 0, none⟩ (.int .i64 a')).setCell ⟨q + 1, 1, none⟩ (.int .i64 b')).setCell ⟨q + 1, 2, none⟩ (.int .i64 c')) v a' b' c' e := by
  obtain ⟨c0, c1, c2, c3, c4, f0, f1, f2, f3, f4⟩ := h
  refine ⟨(cell_set (cell_set (cell_set c0 _) _) _).trans ?_, (cell_set (cell_set (cell_set c1 _) _) _).trans ?_, (cell_set (cell_set (cell_set c2 _) _) _).trans ?_, (cell_set (cell_set (cell_set c3 _) _) _).trans ?_, (cell_set (cell_set (cell_set c4 _) _) _).trans ?_, ?_, ?_, ?_, ?_, ?_⟩ <;> simp [f0, f1, f2, f3, f4]
theorem StFB.lowset {K : Nat → Prop} {T : TypeId} {ex : List Value} {bl cs : Nat → Nat} {base b wd lim : Nat} {w w' : World} {f : FS} (hS : StFB K T ex bl cs base b wd lim w f) (hk : ∀ k, base ≤ k → w'.heap[k]? = w.heap[k]?) (hs : w.heap.size ≤ w'.heap.size) : StFB K T ex bl cs base b wd lim w' f := by
  obtain ⟨hb, P, vr, vp, vq, vk, hB, hC, hK, hF⟩ := hS
  exact ⟨hb, P, vr, vp, vq, vk, ⟨(hk b hb).trans hB.box⟩, hC.keep fun k C e h1 _ _ => hk k h1, owns_keep hK fun r hr => hk r (owns_block2 hK r hr).1, hF.mono hs⟩
theorem setN_high {q B k : Nat} (W : World) (h : q + 1 < B) (hk : B ≤ k) (a b c : Value) : (((W.setCell ⟨q + 1, 0, none⟩ a).setCell ⟨q + 1, 1, none⟩ b).setCell ⟨q + 1, 2, none⟩ c).heap[k]? = W.heap[k]? := by
  rw [Below.heap_setCell _ ⟨q + 1, 2, none⟩ c k (by show k ≠ q + 1; omega), Below.heap_setCell _ ⟨q + 1, 1, none⟩ b k (by show k ≠ q + 1; omega), Below.heap_setCell _ ⟨q + 1, 0, none⟩ a k (by show k ≠ q + 1; omega)]
abbrev S13 (p : Nat) (v2 v7 v11 v12 : Value) (W : World) : Prop := W.cell? ⟨p, 2, none⟩ = some v2 ∧ W.cell? ⟨p, 7, none⟩ = some v7 ∧ W.cell? ⟨p, 11, none⟩ = some v11 ∧ W.cell? ⟨p, 12, none⟩ = some v12
theorem S13.drew {p : Nat} {v2 v7 v11 v12 : Value} {W : World} (h : S13 p v2 v7 v11 v12 W) : S13 p v2 v7 v11 v12 W.drew := h
theorem S13.st {p q : Nat} {v2 v7 v11 v12 : Value} {W : World} (h : S13 p v2 v7 v11 v12 W) (hne : q + 1 ≠ p) (a b c : Value) : S13 p v2 v7 v11 v12 (((W.setCell ⟨q + 1, 0, none⟩ a).setCell ⟨q + 1, 1, none⟩ b).setCell ⟨q + 1, 2, none⟩ c) :=
  ⟨(cell_set (cell_set (cell_set h.1 _) _) _).trans (by simp), (cell_set (cell_set (cell_set h.2.1 _) _) _).trans (by simp), (cell_set (cell_set (cell_set h.2.2.1 _) _) _).trans (by simp), (cell_set (cell_set (cell_set h.2.2.2 _) _) _).trans (by simp)⟩
theorem lk_start {vr : Value} {g base b m lim : Nat} {w : World} (hm : m = 2 * g) (hg1 : 1 ≤ g) (hg : g ≤ 16) (hst : StF (fun _ => False) 176 (exL vr 0 false 0 0) base b m lim w (startF m)) : LkF (fun _ => False) vr g base b m lim w (beginL m) := by
  refine ⟨[], hst, ?_, Nat.zero_le _⟩
  rw [hm]
  exact fine_start hg1 hg
set_option maxRecDepth 100000 in
set_option maxHeartbeats 1000000 in
theorem look87_B (w : World) (vr vs : Value) (g : Int) (rels sub : List W) (limit : Int) (hR : Tab w vr rels) (hS : Tab w vs sub) (hlr : ∀ j, (rels.getD j []).length ≤ 100000) (hsm : ∀ j, (sub.getD j []).length ≤ 100000) (hsl : sub.length ≤ 1000000) (hlim : limit ≤ 1000 ∨ 20000 < limit) :
    Calls Try.prog 87 #[.agg #[.int .i64 g, vr], vs, .int .i64 limit] w (LookPost g rels sub limit w) := by
  obtain ⟨Ar, cr, rfl⟩ := Tab.form hR
  obtain ⟨As, cs, rfl⟩ := Tab.form hS
  have HBG : Hid (∀ W, Tab W (.slice Ar rels.length cr) rels → Tab W (.slice As sub.length cs) sub → Calls Try.prog 141 #[.agg #[.int .i64 g, .slice Ar rels.length cr], .slice As sub.length cs, .int .i64 limit] W (BeginPost g rels sub limit W)) := Lib.hid fun W h1 h2 => begin141_any W _ _ g rels sub limit h1 h2 hsm hsl
  have HPB : Hid (∀ w0 : World, w0 = (((w.alloc (.cells #[.int .i64 g, .slice Ar rels.length cr] 40)).alloc (.cells #[.slice none 0 0] 23)).alloc (.cells #[.int .i64 0, .int .i64 0, .int .i64 0] 49)).alloc (.cells #[.int .i64 0] 28) → Below w.heap.size w w0 ∧ w0.heap.size = w.heap.size + 4 ∧ w0.heap[w.heap.size]? = some (.cells #[.int .i64 g, .slice Ar rels.length cr] 40 (0, 0)) ∧ ResC (w.heap.size + 1) w0 (.slice none 0 0) 0 0 0 0) := Lib.hid fun w0 h => by
    subst h
    refine ⟨((((Below.refl _ _).alloc (Nat.le_refl _) _).alloc (by simp) _).alloc (by simp; omega) _).alloc (by simp; omega) _, by simp, ?_, resC_made w _⟩
    have h0 := heap_alloc_new w (.cells #[.int .i64 g, .slice Ar rels.length cr] 40)
    have hb : Below (w.heap.size + 1) (w.alloc (.cells #[.int .i64 g, .slice Ar rels.length cr] 40)) ((((w.alloc (.cells #[.int .i64 g, .slice Ar rels.length cr] 40)).alloc (.cells #[.slice none 0 0] 23)).alloc (.cells #[.int .i64 0, .int .i64 0, .int .i64 0] 49)).alloc (.cells #[.int .i64 0] 28)) := (((Below.refl _ _).alloc (by simp) _).alloc (by simp) _).alloc (by simp) _
    exact (hb.block _ (by omega)).trans h0
  have HRR := Lib.hid hR
  have HSS := Lib.hid hS
  clear hR hS
  go_enter_defers Try.func87, Try.ntmps87
  go_wp2_with fail
  generalize hw0 : (((w.alloc (.cells #[.int .i64 g, .slice Ar rels.length cr] 40)).alloc (.cells #[.slice none 0 0] 23)).alloc (.cells #[.int .i64 0, .int .i64 0, .int .i64 0] 49)).alloc (.cells #[.int .i64 0] 28) = w0 at *
  obtain ⟨hb0, hsz, hbp, hrc⟩ := HPB.out w0 rfl
  have HB0 := Lib.hid hb0
  have HSZ := Lib.hid hsz
  have HBX : Hid (∀ W, Below w0.heap.size w0 W → W.cell? ⟨w.heap.size, 0, none⟩ = some (.int .i64 g) ∧ W.cell? ⟨w.heap.size, 1, none⟩ = some (.slice Ar rels.length cr) ∧ ResC (w.heap.size + 1) W (.slice none 0 0) 0 0 0 0) := Lib.hid fun W h => by
    obtain ⟨a, b⟩ := cell_of2 ((h.block _ (Array.getElem?_eq_some_iff.1 hbp).1).trans hbp)
    exact ⟨a, b, hrc.below hrc.lt h⟩
  have HT0 := Lib.hid (kept_tab.below HRR.out hb0)
  have HS0 := Lib.hid (kept_tab.below HSS.out hb0)
  clear hw0 hb0 hsz hbp hrc HPB
  obtain ⟨hc0, hc1, -⟩ := HBX.out w0 (Below.refl _ _)
  by_cases he : givenE g rels sub limit = 0
  · obtain ⟨gn, lim, rfl, rfl, hg1, hg16, hrl, hrg, hlo, hso, hsl2, hl1, hl2⟩ := givenE_all he
    have HBD : Hid (Calls Try.prog 141 #[.agg #[.int .i64 (gn : Int), .slice Ar rels.length cr], .slice As sub.length cs, .int .i64 (lim : Int)] w0 fun e w' => (∃ C, e = .returned (.tuple #[.agg C, .int .i64 0]) ∧ CosF w0.heap.size (2 * gn) lim w' C (startF (2 * gn))) ∧ Below w0.heap.size w0 w') := Lib.hid ((HBG.out w0 HT0.out HS0.out).mono fun e w' ⟨h, hb⟩ => ⟨by
      rcases h with ⟨h, -⟩ | ⟨-, C, h1, h2⟩
      · exact absurd he h
      · rw [Int.toNat_natCast, Int.toNat_natCast] at h2
        exact ⟨C, h1, h2⟩, hb⟩)
    have hlim2 : lim ≤ 1000 := by omega
    have HE := Lib.hid he
    have HRG := Lib.hid hrg
    have HLO := Lib.hid hlo
    have HSO := Lib.hid hso
    clear he HBG hlim hrg hlo hso
    go_wp2_with (first
      | (go_at_call 141; (with_reducible refine HBD.out.mono ?_); rintro e w1 ⟨⟨C, rfl, hC⟩, hb⟩
         obtain ⟨C0, C1, C2, C3, C4, C5, C6, C7, rfl⟩ : ∃ C0 C1 C2 C3 C4 C5 C6 C7, C = #[C0, C1, C2, C3, C4, C5, C6, C7] := by
           obtain ⟨bl, css, P, vr, vp, vq, vk, rfl, -⟩ := hC
           exact ⟨_, _, _, _, _, _, _, _, rfl⟩
         have hal : Below w1.heap.size w1 (w1.alloc (.cells #[C0, C1, C2, C3, C4, C5, C6, C7] 151)) := (Below.refl _ _).alloc (Nat.le_refl _) _
         have hb1 : Below w0.heap.size w0 (w1.alloc (.cells #[C0, C1, C2, C3, C4, C5, C6, C7] 151)) := hb.trans (hal.mono hb.size)
         have HN1 := Lib.hid (heap_alloc_new w1 (.cells zero151 151))
         have HN2 := Lib.hid (heap_alloc_new w1 (.cells #[C0, C1, C2, C3, C4, C5, C6, C7] 151))
         have hrc := (HBX.out _ hb1).2.2
         have HRC2 := Lib.hid (hrc.setE 0)
         have HB1 := Lib.hid hb1
         have HAL := Lib.hid hal
         have HONE := Lib.hid hC.one
         have HC := Lib.hid hC
         have HZ1 := Lib.hid hb.size
         have HZ2 : Hid ((w1.alloc (.cells #[C0, C1, C2, C3, C4, C5, C6, C7] 151)).heap.size = w1.heap.size + 1) := Lib.hid (by simp)
         obtain ⟨c0, c1, c2, c3, c4, f0, f1, f2, f3, f4⟩ := hrc
         clear hb hal hb1 hC)
      | ((with_reducible refine wpList_sel 9 ?_); refine wpList_val rfl (r_alloc151 rfl) ?_; refine wpList_skip rfl (r_store151 (.tmp 9) (.tmp 20) rfl w1.heap.size zero151 _ rfl rfl HN1.out rfl rfl HONE.out) ?_; rw [World.setRow_alloc_new]; generalize w1.alloc (.cells #[C0, C1, C2, C3, C4, C5, C6, C7] 151) = w2 at *)
      | ((with_reducible refine wpList_sel 26 ?_)
         clear c0 c1 c2 c3 c4 f0 f1 f2 f3 f4
         have hlow : w.heap.size + 1 + 1 + 1 < w0.heap.size := by have := HSZ.out; omega
         have hn3 : (w2.setCell ⟨w.heap.size + 1 + 1 + 1, 0, none⟩ (.int .i64 0)).heap[w1.heap.size]? = some (.cells #[C0, C1, C2, C3, C4, C5, C6, C7] 151 (0, 0)) := (Below.heap_setCell w2 ⟨w.heap.size + 1 + 1 + 1, 0, none⟩ (.int .i64 0) w1.heap.size (by show w1.heap.size ≠ w.heap.size + 1 + 1 + 1; have := HZ1.out; omega)).trans HN2.out
         have hcos := HC.out.keep (w' := w2.setCell ⟨w.heap.size + 1 + 1 + 1, 0, none⟩ (.int .i64 0)) (fun k h1 h2 => (Below.heap_setCell w2 ⟨w.heap.size + 1 + 1 + 1, 0, none⟩ (.int .i64 0) k (by show k ≠ w.heap.size + 1 + 1 + 1; omega)).trans (HAL.out.block k h2))
         have hw3 : Below w.heap.size w (w2.setCell ⟨w.heap.size + 1 + 1 + 1, 0, none⟩ (.int .i64 0)) := (HB0.out.trans (HB1.out.mono HB0.out.size)).setCell (p := ⟨w.heap.size + 1 + 1 + 1, 0, none⟩) (by show w.heap.size ≤ w.heap.size + 1 + 1 + 1; omega) _
         have hp3 : (w2.setCell ⟨w.heap.size + 1 + 1 + 1, 0, none⟩ (.int .i64 0)).cell? ⟨w.heap.size, 0, none⟩ = some (.int .i64 (gn : Int)) ∧ (w2.setCell ⟨w.heap.size + 1 + 1 + 1, 0, none⟩ (.int .i64 0)).cell? ⟨w.heap.size, 1, none⟩ = some (.slice Ar rels.length cr) := ⟨(cell_set (HBX.out _ HB1.out).1 _).trans (by simp), (cell_set (HBX.out _ HB1.out).2.1 _).trans (by simp)⟩
         have hs3 : (w2.setCell ⟨w.heap.size + 1 + 1 + 1, 0, none⟩ (.int .i64 0)).heap.size = w1.heap.size + 1 := by rw [← HZ2.out]; simp [World.setCell]
         generalize w2.setCell ⟨w.heap.size + 1 + 1 + 1, 0, none⟩ (.int .i64 0) = w3 at *
         have HBY : Hid (∀ W, Below w0.heap.size w3 W → W.cell? ⟨w.heap.size, 0, none⟩ = some (.int .i64 (gn : Int)) ∧ W.cell? ⟨w.heap.size, 1, none⟩ = some (.slice Ar rels.length cr) ∧ ResC (w.heap.size + 1) W (.slice none 0 0) 0 0 0 0 ∧ Tab W (.slice Ar rels.length cr) rels ∧ Tab W (.slice As sub.length cs) sub ∧ Below w.heap.size w W) := Lib.hid fun W h => by
           have h1 : Below w.heap.size w W := hw3.trans (h.mono HB0.out.size)
           exact ⟨(h.cell (p := ⟨w.heap.size, 0, none⟩) (by show w.heap.size < w0.heap.size; omega)).trans hp3.1, (h.cell (p := ⟨w.heap.size, 1, none⟩) (by show w.heap.size < w0.heap.size; omega)).trans hp3.2, HRC2.out.below (by omega) h, kept_tab.below HRR.out h1, kept_tab.below HSS.out h1, h1⟩
         have HCOS := Lib.hid hcos
         have HN3 := Lib.hid hn3
         have HS3 := Lib.hid hs3
         have HLOW := Lib.hid hlow
         obtain ⟨hc0', hc1', -⟩ := HBY.out w3 (Below.refl _ _)
         clear hcos hn3 hs3 hlow hw3 hp3 HC HN1 HN2 HRC2 HB1 HAL HZ2 hc0 hc1
         refine wpList_val rfl (r_load151 (.tmp 9) w1.heap.size _ _ _ _ _ _ _ _ rfl rfl HN3.out) ?_)
      | ((with_reducible refine wpList_sel 29 ?_); refine wpList_val rfl (r_build176 (.tmp 26) (.tmp 28) _ _ _ _ _ _ _ _ _ _ _ rfl rfl rfl) ?_))
    have hC0 : C0 = .int .i64 (((2 * gn : Nat) : Int)) ∧ C6 = .int .i64 (startF (2 * gn)).s.live ∧ C7 = .int .i64 (startF (2 * gn)).s.most := by
      obtain ⟨bl, css, P, vr, vp, vq, vk, e, -⟩ := HCOS.out
      unfold fcells at e
      injection e with e
      injection e with e0 e
      injection e with e1 e
      injection e with e2 e
      injection e with e3 e
      injection e with e4 e
      injection e with e5 e
      injection e with e6 e
      injection e with e7 e
      exact ⟨e0, e6, e7⟩
    obtain ⟨rfl, rfl, rfl⟩ := hC0
    have hnw := heap_alloc_new w3 (.cells #[.int .i64 (((2 * gn : Nat) : Int)), C1, C2, C3, C4, C5, .int .i64 (startF (2 * gn)).s.live, .int .i64 (startF (2 * gn)).s.most, .slice Ar rels.length cr, .int .i64 0, .bool false, .int .i64 0, .int .i64 0] 176)
    have hbw5 : Below w3.heap.size w3 (w3.alloc (.cells #[.int .i64 (((2 * gn : Nat) : Int)), C1, C2, C3, C4, C5, .int .i64 (startF (2 * gn)).s.live, .int .i64 (startF (2 * gn)).s.most, .slice Ar rels.length cr, .int .i64 0, .bool false, .int .i64 0, .int .i64 0] 176)) := (Below.refl _ _).alloc (Nat.le_refl _) _
    have HSZ3 : Hid (w0.heap.size < w3.heap.size) := Lib.hid (by have := HZ1.out; have := HS3.out; omega)
    generalize w3.alloc (.cells #[.int .i64 (((2 * gn : Nat) : Int)), C1, C2, C3, C4, C5, .int .i64 (startF (2 * gn)).s.live, .int .i64 (startF (2 * gn)).s.most, .slice Ar rels.length cr, .int .i64 0, .bool false, .int .i64 0, .int .i64 0] 176) = w5 at *
    have hst : StF (fun _ => False) 176 (exL (.slice Ar rels.length cr) 0 false 0 0) w0.heap.size w3.heap.size (2 * gn) lim w5 (startF (2 * gn)) := HCOS.out.rebox hbw5 hnw (Nat.le_of_lt HSZ3.out) (fun k hk => hk.elim)
    have hlk := lk_start rfl hg1 hg16 hst
    obtain ⟨Bm, hBm⟩ : ∃ Bm, Bm = w3.heap.size := ⟨_, rfl⟩
    rw [← hBm] at hlk ⊢
    have HBM := Lib.hid hBm
    have HB5 : Hid (Below w0.heap.size w3 w5) := Lib.hid (hbw5.mono (Nat.le_of_lt HSZ3.out))
    have HBW5 : Hid (w0.heap.size ≤ w5.heap.size) := Lib.hid (by have h1 := hbw5.size; have := HSZ3.out; omega)
    have HLR : Hid (∀ j, (rels.getD j []).length ≤ 1000000) := Lib.hid fun j => Nat.le_trans (hlr j) (by decide)
    generalize hm2 : 2 * gn = m at *
    have HM2 := Lib.hid hm2
    have HLK := Lib.hid hlk
    have HWR : Hid (WordsK (fun _ => False) w0.heap.size w5 (.slice Ar rels.length cr) rels) := Lib.hid ⟨w, HRR.out, fun W h => (HBY.out W (HB5.out.trans h.1)).2.2.2.2.2⟩
    have HTO : Hid (∀ k y, k ≤ sub.length → optTo (subL m lim rels sub) k (beginL m) = some y → LGood gn lim y ∧ y.r = 0 ∧ y.lost = false) := Lib.hid fun k y hk e => by
      rw [← hm2] at e
      have h := subL_to (fun j _ => HLO.out j) (fun j _ => HSO.out j) hl1 hk e
      exact ⟨h.1, h.2.1, h.2.2.1⟩
    have HST : Hid (∀ y, LGood gn lim y → runL m lim rels y = if y.s.t.length ≤ y.r then some y else match stepL m lim rels y with | none => none | some z => runL m lim rels z) := Lib.hid fun y hy => by
      have h := runL_step (rels := rels) (fun j _ => HLO.out j) hy
      rw [hm2] at h
      exact h
    have HSG : Hid (∀ y z, LGood gn lim y → y.r < y.s.t.length → stepL m lim rels y = some z → LGood gn lim z ∧ upot lim z < upot lim y) := Lib.hid fun y z hy hx e => by
      rw [← hm2] at e
      have h := step_to (sub := []) (fun j _ => HLO.out j) (fun j hj => absurd hj (by simp)) hy hx e
      exact ⟨h.1, h.2.2.2.2⟩
    have HEF : Hid (lookS m lim rels sub = none → lookE gn rels sub lim = ([], (0, 0, 0), 12)) := Lib.hid fun h => lookE_full HE.out (by rw [hm2]; exact h)
    have HES : Hid (∀ y, lookS m lim rels sub = some y → lookE gn rels sub lim = ((stdE gn (tabS y.s) 0).1, (((y.s.t.length + y.removed : Nat) : Int), y.s.most, (y.looks : Int)), 0)) := Lib.hid fun f h => lookE_some HE.out (by rw [hm2]; exact h)
    have HCF : Hid (∀ y, lookS m lim rels sub = some y → LGood gn lim y ∧ Comp gn y.s y.s.t.length ∧ stdE gn (tabS y.s) 0 = (stdT (tabS y.s) 0, 0)) := Lib.hid fun y h => by
      have h2 := coset_of_look hg1 hg16 hl2 hl1 (fun j _ => HLO.out j) (fun j _ => HSO.out j) (by rw [hm2]; exact h)
      exact ⟨h2.1, h2.2.1, h2.2.2.2.2.1⟩
    have HLS : Hid (lookS m lim rels sub = (optTo (subL m lim rels sub) sub.length (beginL m)).bind (runL m lim rels)) := Lib.hid rfl
    have HRLL : Hid (rels.length ≤ 100000) := Lib.hid (by omega)
    have hsb : (0 : Int) ≤ (sub.length : Int) := Int.natCast_nonneg _
    have hsb2 : (sub.length : Int) ≤ 100 := by omega
    clear hm2 hlk hnw hbw5 hst hBm hlr HBD
    generalize lookS m lim rels sub = F at *
    go_wp2_with fail
    go_loopw [33] (fun i wr => ∃ (k : Nat) (y : LS), i = .int .i64 (k : Int) ∧ k ≤ sub.length ∧ Hid (optTo (subL m lim rels sub) k (beginL m) = some y ∧ LkF (fun _ => False) (.slice Ar rels.length cr) gn w0.heap.size Bm m lim wr y) ∧ Hid (Keeps w0.heap.size (fun _ => False) w5 wr)) (fun i _ => sub.length - (intOf i).toNat)
    case atStart => exact ⟨0, beginL m, rfl, Nat.zero_le _, Lib.hid ⟨rfl, HLK.out⟩, Lib.hid (Keeps.refl _ _ _)⟩
    case round =>
      clear HLK hc0' hc1'
      obtain ⟨k, y, rfl, hk, HI, HK⟩ := hrel
      have hk0 : (0 : Int) ≤ (k : Int) := Int.natCast_nonneg _
      have HB7 : Hid (Below w0.heap.size w3 wr) := Lib.hid (HB5.out.trans HK.out.1)
      have HY := Lib.hid (HTO.out k y hk HI.out.1)
      by_cases hlt : k < sub.length
      · have hltI : (k : Int) < (sub.length : Int) := by omega
        obtain ⟨bs, os, rfl, hcell⟩ := HSS.out.cells (by omega)
        obtain ⟨u, hu0, hI0⟩ := hcell k hlt
        have HSB : Hid (∀ W, Below w0.heap.size w3 W → W.cell? ⟨bs, os + k, none⟩ = some u ∧ IntsAt W u (sub.getD k [])) := Lib.hid fun W hW => by
          have hw := (HBY.out _ hW).2.2.2.2.2
          exact ⟨(hw.cell (p := ⟨bs, os + k, none⟩) (World.block_lt_of_cell? w _ hu0)).trans hu0, kept_ints.below hI0 hw⟩
        have hck := (HSB.out _ HB7.out).1
        have HFI := Lib.hid (fill156_any (fun _ => False) (.slice Ar rels.length cr) gn m w0.heap.size Bm lim HM2.out.symm wr y rels u (sub.getD k []) HI.out.2 HY.out.1 (fun _ => by rw [HY.out.2.1]; exact ⟨HY.out.1.good.n1, Ct.rp_zero HY.out.1.good.rest HY.out.1.good.n1⟩) (Nat.le_trans HBW5.out HK.out.size) hlim2 (fun W hW => HWR.out.tab (HK.out.trans hW)) HLO.out HLR.out (fun W hW => (HSB.out W (HB7.out.trans hW.1)).2) (HSO.out k) (by have := hsm k; omega))
        have HOP : Hid (optTo (subL m lim rels sub) (k + 1) (beginL m) = Ct.fillL m lim rels y (sub.getD k [])) := Lib.hid (by rw [optTo_succ, HI.out.1]; rfl)
        obtain ⟨Au, cu, rfl, -, -, -⟩ := hI0.open_
        clear hcell hu0 hI0
        cases hfs : Ct.fillL m lim rels y (sub.getD k []) with
        | none =>
          have HEN : Hid (lookE gn rels sub lim = ([], (0, 0, 0), 12)) := Lib.hid (HEF.out (by rw [HLS.out, optTo_none (by rw [HOP.out, hfs]) sub.length (by omega)]; rfl))
          rw [hfs] at HFI
          clear hfs
          generalize (sub.getD k []).length = lu at *
          have hfp : Calls Try.prog 156 #[.pointer (some ⟨Bm, 0, none⟩), .slice Au lu cu] wr fun e w' => e = .panicked fullF ∧ Keeps w0.heap.size (fun _ => False) wr w' := HFI.out.mono fun e w' h => by
            obtain ⟨h, hb⟩ := h
            rcases h with ⟨f', h, -⟩ | ⟨-, h⟩
            · cases h
            · exact ⟨h, hb⟩
          have HFP := Lib.hid hfp
          clear hfp HFI
          go_wp2_with (go_at_call 156; (with_reducible refine HFP.out.mono ?_); rintro e w8 ⟨rfl, hk8⟩; have HB8 := Lib.hid (HB7.out.trans hk8.1); clear hk8)
          obtain ⟨-, -, hrc8, -, -, hbw8⟩ := HBY.out _ HB8.out
          refine leaves_cons (f := 142) (args := #[.pointer (some ⟨w.heap.size + 1, 0, none⟩), .pointer (some ⟨w.heap.size + 1 + 1, 0, none⟩), .pointer (some ⟨w.heap.size + 1 + 1 + 1, 0, none⟩)]) (by simp) (by simp [go_sem]) ?_
          refine (ended_full (w.heap.size + 1) w.heap.size w8 _ _ _ _ _ (by omega) hrc8).mono ?_
          rintro e u' w9 ⟨rfl, rfl, hrc9, hb9⟩
          exact leave87 hrc9 _ rfl rfl rfl (LookPost.err HEN.out (hbw8.trans hb9))
        | some y1 =>
          have HOP2 : Hid (optTo (subL m lim rels sub) (k + 1) (beginL m) = some y1) := Lib.hid (by rw [HOP.out, hfs])
          rw [hfs] at HFI
          have hfp : Calls Try.prog 156 #[.pointer (some ⟨Bm, 0, none⟩), .slice Au (sub.getD k []).length cu] wr fun e w' => e = .returned (.tuple #[]) ∧ LkF (fun _ => False) (.slice Ar rels.length cr) gn w0.heap.size Bm m lim w' y1 ∧ Keeps w0.heap.size (fun _ => False) wr w' := HFI.out.mono fun e w' h => by
            obtain ⟨h, hb⟩ := h
            rcases h with ⟨f2, h1, h2, h3⟩ | ⟨h, -⟩
            · cases h1; exact ⟨h2, h3, hb⟩
            · cases h
          have HFP := Lib.hid hfp
          clear hfp HFI hfs
          generalize (sub.getD k []).length = lu at *
          go_wp2_with (go_at_call 156; (with_reducible refine HFP.out.mono ?_); rintro e w8 ⟨rfl, hs8, hk8⟩; have HS8 := Lib.hid hs8; have HK8 := Lib.hid (HK.out.trans hk8); clear hs8 hk8)
          go_roundw
          case rel => exact ⟨k + 1, y1, by go_num, by omega, Lib.hid ⟨HOP2.out, HS8.out⟩, HK8⟩
          case measure => simp [intOf]; omega
      · obtain rfl : k = sub.length := by omega
        clear hlt hk
        have HFR0 : Hid (F = runL m lim rels y) := Lib.hid (by rw [HLS.out, HI.out.1]; rfl)
        have HI0 : Hid (LGood gn lim y ∧ LkF (fun _ => False) (.slice Ar rels.length cr) gn w0.heap.size Bm m lim wr y) := Lib.hid ⟨HY.out.1, HI.out.2⟩
        go_wp2_with fail
        go_loopg [] (upot lim y + 1) (fun n wx => ∃ y1 : LS, Hid (n = upot lim y1 + 1) ∧ Hid (F = runL m lim rels y1) ∧ Hid (LGood gn lim y1 ∧ LkF (fun _ => False) (.slice Ar rels.length cr) gn w0.heap.size Bm m lim wx y1) ∧ Hid (Keeps w0.heap.size (fun _ => False) w5 wx))
        case atStart => exact ⟨y, Lib.hid rfl, HFR0, HI0, HK⟩
        case round =>
          clear HI HK HB7 HFR0 HI0 HY
          obtain ⟨y1, HN, HFR, HI, HK⟩ := hrel
          have HB7 : Hid (Below w0.heap.size w3 wr) := Lib.hid (HB5.out.trans HK.out.1)
          have hrun := HST.out y1 HI.out.1
          rw [← HFR.out] at hrun
          obtain ⟨⟨A2, k2, c2⟩, c7, c8, c9, c10, c11, c12, cf, hn1⟩ := HI.out.2.look
          have hr0 : (0 : Int) ≤ (y1.r : Int) := Int.natCast_nonneg _
          have hn0 : (0 : Int) ≤ (y1.s.t.length : Int) := Int.natCast_nonneg _
          have hnI : (y1.s.t.length : Int) ≤ 1000 := by omega
          have HKD : Hid (∀ q, LkF (fun _ => False) (.slice Ar rels.length cr) gn w0.heap.size Bm m lim (wr.drewN q) y1 ∧ Keeps w0.heap.size (fun _ => False) w5 (wr.drewN q)) := Lib.hid fun q => ⟨HI.out.2.below (below_drewN (Below.refl _ _) q), HK.out.trans ⟨below_drewN (Below.refl _ _) _, fun _ _ => rfl⟩⟩
          clear c7 c8 c10 c11 c12 cf
          by_cases hlt : y1.r < y1.s.t.length
          · rw [if_neg (by omega)] at hrun
            have hltI : (y1.r : Int) < (y1.s.t.length : Int) := by omega
            have HSP := Lib.hid (fun q => step157_any (fun _ => False) (.slice Ar rels.length cr) gn m w0.heap.size Bm lim HM2.out.symm (wr.drewN q) y1 rels (HKD.out q).1 HI.out.1 hlt (Nat.le_trans HBW5.out (HKD.out q).2.size) hlim2 HRLL.out (HWR.out.later (HKD.out q).2) HLO.out HLR.out)
            have HSG1 := Lib.hid (fun z h => HSG.out y1 z HI.out.1 hlt h)
            cases hsp : stepL m lim rels y1 with
            | none =>
              rw [hsp] at HSP hrun
              have HEN : Hid (lookE gn rels sub lim = ([], (0, 0, 0), 12)) := Lib.hid (HEF.out hrun)
              have HFP : Hid (∀ q, Calls Try.prog 157 #[.pointer (some ⟨Bm, 0, none⟩)] (wr.drewN q) fun e w' => e = .panicked fullF ∧ Keeps w0.heap.size (fun _ => False) (wr.drewN q) w') := Lib.hid fun q => (HSP.out q).mono fun e w' h => by
                obtain ⟨h, hb⟩ := h
                rcases h with ⟨f', h, -⟩ | ⟨-, h⟩
                · cases h
                · exact ⟨h, hb⟩
              clear HSP hsp hrun HSG1
              go_wp2_with fail
              go_quiet (fail)
              go_wp2_with (go_at_call 157; (with_reducible refine (HFP.out _).mono ?_); rintro e w8 ⟨rfl, hk8⟩; have HB8 := Lib.hid (HB5.out.trans ((HKD.out _).2.trans hk8).1); clear hk8)
              obtain ⟨-, -, hrc8, -, -, hbw8⟩ := HBY.out _ HB8.out
              refine leaves_cons (f := 142) (args := #[.pointer (some ⟨w.heap.size + 1, 0, none⟩), .pointer (some ⟨w.heap.size + 1 + 1, 0, none⟩), .pointer (some ⟨w.heap.size + 1 + 1 + 1, 0, none⟩)]) (by simp) (by simp [go_sem]) ?_
              refine (ended_full (w.heap.size + 1) w.heap.size w8 _ _ _ _ _ (by omega) hrc8).mono ?_
              rintro e u' w9 ⟨rfl, rfl, hrc9, hb9⟩
              exact leave87 hrc9 _ rfl rfl rfl (LookPost.err HEN.out (hbw8.trans hb9))
            | some z =>
              rw [hsp] at HSP hrun
              have HZ := Lib.hid (HSG1.out z hsp)
              have HFR1 : Hid (F = runL m lim rels z) := Lib.hid hrun
              have HFP : Hid (∀ q, Calls Try.prog 157 #[.pointer (some ⟨Bm, 0, none⟩)] (wr.drewN q) fun e w' => e = .returned (.tuple #[]) ∧ LkF (fun _ => False) (.slice Ar rels.length cr) gn w0.heap.size Bm m lim w' z ∧ Keeps w0.heap.size (fun _ => False) (wr.drewN q) w') := Lib.hid fun q => (HSP.out q).mono fun e w' h => by
                obtain ⟨h, hb⟩ := h
                rcases h with ⟨f', h1, h2, h3⟩ | ⟨h, -⟩
                · cases h1; exact ⟨h2, h3, hb⟩
                · cases h
              clear HSP hsp hrun HSG1
              go_wp2_with fail
              go_quiet (fail)
              go_wp2_with (go_at_call 157; (with_reducible refine (HFP.out _).mono ?_); rintro e w8 ⟨rfl, hs8, hk8⟩; have HS8 := Lib.hid hs8; have HK8 := Lib.hid ((HKD.out _).2.trans hk8); clear hs8 hk8)
              go_roundg (upot lim z + 1)
              case measure => have := HN.out; have := HZ.out.2; omega
              case rel => exact ⟨z, Lib.hid rfl, HFR1, Lib.hid ⟨HZ.out.1, HS8.out⟩, HK8⟩
          · rw [if_pos (by omega)] at hrun
            have hltI : ¬ (y1.r : Int) < (y1.s.t.length : Int) := by omega
            have HEN := Lib.hid (HES.out y1 hrun)
            obtain ⟨hg, hcomp, hstd⟩ := HCF.out y1 hrun
            have hts := (tab_std hg1 hg16 hl2 hg.good hcomp).1
            have HTG := Lib.hid hts
            have HTS := Lib.hid hstd
            have HCP := Lib.hid hcomp
            have HGD := Lib.hid hg.good
            have H48 : Hid (∀ W u, Tab W u (tabS y1.s) → Calls Try.prog 56 #[.int .i64 (gn : Int), u, .int .i64 0] W fun e w' => (∃ u, e = .returned (.tuple #[u, .int .i64 0]) ∧ TabB W.heap.size w' u (stdE gn (tabS y1.s) 0).1) ∧ Below W.heap.size W w') := Lib.hid fun W u h => (std48_goodB W u gn (tabS y1.s) 0 h HTG.out (Int.le_refl _) (by have := HTG.out.n1; omega)).mono fun e w' ⟨⟨u, h1, h2⟩, h3⟩ => ⟨⟨u, by rw [h1, HTS.out], h2⟩, h3⟩
            clear hg hstd hcomp hts hrun
            go_wp2_with fail
            go_quiet (fail)
            go_wp2_with fail
            obtain ⟨hlk6, hk6⟩ := HKD.out nq
            generalize wr.drewN nq = w6 at *
            have HLK6 := Lib.hid hlk6
            have HB6 : Hid (Below w0.heap.size w3 w6) := Lib.hid (HB5.out.trans hk6.1)
            have hqq : w.heap.size + 1 + 1 + 1 < w0.heap.size := HLOW.out
            obtain ⟨hp0, hp1, hrc6, -, -, hbw6⟩ := HBY.out _ HB6.out
            have HRC6 := Lib.hid hrc6
            have HBW6 := Lib.hid hbw6
            have HSZ6 : Hid (w0.heap.size ≤ w6.heap.size) := Lib.hid (Nat.le_trans HBW5.out hk6.size)
            obtain ⟨⟨A6, k6, d2⟩, d7, -, -, -, d11, d12, -, -⟩ := hlk6.look
            have hrm : y1.removed ≤ 50000 := by
              obtain ⟨-, -, -, h⟩ := hlk6
              have := HI.out.1.lk
              omega
            have hrm0 : (0 : Int) ≤ (y1.removed : Int) := Int.natCast_nonneg _
            have hrm1 : (y1.removed : Int) ≤ 50000 := by omega
            have HLB : Hid (Bm < w6.heap.size) := Lib.hid (by
              obtain ⟨k, ⟨bl, cs', hs⟩, -⟩ := hlk6
              exact World.block_lt_of_cell? _ _ d2)
            clear HI HFR HN HK HB7 hlk6 hk6 hltI hlt hn1 hrc6 hbw6 c2 c9
            generalize hfl : y1.s.t.length = nf at *
            generalize y1.removed = rm at *
            generalize hmo : y1.s.most = mo at *
            generalize y1.looks = lk at *
            have hws : IntKind.i64.wrap ((nf : Int) + (rm : Int)) = (nf : Int) + (rm : Int) := IntWalk.i64_in _ (by omega)
            have HNQ : Hid (w.heap.size + 1 + 1 ≠ Bm) := Lib.hid (by
              have h1 := HBM.out
              have h2 := HSZ3.out
              omega)
            have HS0 : Hid (S13 Bm (.slice A6 nf k6) (.int .i64 mo) (.int .i64 (rm : Int)) (.int .i64 (lk : Int)) w6) := Lib.hid ⟨d2, d7, d11, d12⟩
            obtain ⟨c0, c1, c2, c3, c4, f0, f1, f2, f3, f4⟩ := HRC6.out
            generalize hQ : w.heap.size = Q at *
            have HQ := Lib.hid hQ
            clear hQ
            go_region_held3 (fun w' => w'.cell? ⟨Bm, 2, none⟩ = some (.slice A6 nf k6) ∧ w'.cell? ⟨Bm, 7, none⟩ = some (.int .i64 mo) ∧ w'.cell? ⟨Bm, 11, none⟩ = some (.int .i64 (rm : Int)) ∧ w'.cell? ⟨Bm, 12, none⟩ = some (.int .i64 (lk : Int)))
              (first | with_reducible exact HS0.out.drew | with_reducible exact (HS0.out.st HNQ.out _ _ _).drew)
              (fail)
            have hrc7 : ResC (Q + 1) ((((w6.setCell ⟨Q + 1 + 1, 0, none⟩ (.int .i64 ((nf : Int) + (rm : Int)))).setCell ⟨Q + 1 + 1, 1, none⟩ (.int .i64 mo)).setCell ⟨Q + 1 + 1, 2, none⟩ (.int .i64 (lk : Int))).drew) (.slice none 0 0) ((nf : Int) + (rm : Int)) mo (lk : Int) 0 := by
              have h := HRC6.out.setN ((nf : Int) + (rm : Int)) mo (lk : Int)
              exact h.below h.lt (Below.refl _ _).drew
            have hlow : ∀ k, w0.heap.size ≤ k → ((((w6.setCell ⟨Q + 1 + 1, 0, none⟩ (.int .i64 ((nf : Int) + (rm : Int)))).setCell ⟨Q + 1 + 1, 1, none⟩ (.int .i64 mo)).setCell ⟨Q + 1 + 1, 2, none⟩ (.int .i64 (lk : Int))).drew).heap[k]? = w6.heap[k]? := fun k hk => setN_high (q := Q + 1) w6 (by omega) hk _ _ _
            have hp7 : ((((w6.setCell ⟨Q + 1 + 1, 0, none⟩ (.int .i64 ((nf : Int) + (rm : Int)))).setCell ⟨Q + 1 + 1, 1, none⟩ (.int .i64 mo)).setCell ⟨Q + 1 + 1, 2, none⟩ (.int .i64 (lk : Int))).drew).cell? ⟨Q, 0, none⟩ = some (.int .i64 (gn : Int)) ∧ ((((w6.setCell ⟨Q + 1 + 1, 0, none⟩ (.int .i64 ((nf : Int) + (rm : Int)))).setCell ⟨Q + 1 + 1, 1, none⟩ (.int .i64 mo)).setCell ⟨Q + 1 + 1, 2, none⟩ (.int .i64 (lk : Int))).drew).cell? ⟨Q, 1, none⟩ = some (.slice Ar rels.length cr) :=
              ⟨(cell_set (cell_set (cell_set hp0 _) _) _).trans (by simp), (cell_set (cell_set (cell_set hp1 _) _) _).trans (by simp)⟩
            have hbw7 : Below Q w ((((w6.setCell ⟨Q + 1 + 1, 0, none⟩ (.int .i64 ((nf : Int) + (rm : Int)))).setCell ⟨Q + 1 + 1, 1, none⟩ (.int .i64 mo)).setCell ⟨Q + 1 + 1, 2, none⟩ (.int .i64 (lk : Int))).drew) := (((HBW6.out.setCell (p := ⟨Q + 1 + 1, 0, none⟩) (by show Q ≤ Q + 1 + 1; omega) _).setCell (p := ⟨Q + 1 + 1, 1, none⟩) (by show Q ≤ Q + 1 + 1; omega) _).setCell (p := ⟨Q + 1 + 1, 2, none⟩) (by show Q ≤ Q + 1 + 1; omega) _).drew
            have hz7 : ((((w6.setCell ⟨Q + 1 + 1, 0, none⟩ (.int .i64 ((nf : Int) + (rm : Int)))).setCell ⟨Q + 1 + 1, 1, none⟩ (.int .i64 mo)).setCell ⟨Q + 1 + 1, 2, none⟩ (.int .i64 (lk : Int))).drew).heap.size = w6.heap.size := by simp [World.setCell, World.drew]
            generalize (((w6.setCell ⟨Q + 1 + 1, 0, none⟩ (.int .i64 ((nf : Int) + (rm : Int)))).setCell ⟨Q + 1 + 1, 1, none⟩ (.int .i64 mo)).setCell ⟨Q + 1 + 1, 2, none⟩ (.int .i64 (lk : Int))).drew = w7 at *
            have HSQ : Hid (Calls Try.prog 148 #[.pointer (some ⟨Bm, 0, none⟩)] w7 fun e w' => ∃ A c B, e = .returned (.tuple #[B, .slice A (tabS y1.s).length c]) ∧ Tab w' (.slice A (tabS y1.s).length c) (tabS y1.s) ∧ Below w0.heap.size w7 w') := Lib.hid (by
              obtain ⟨kk, ⟨bl, cs', hsb⟩, hfi, -⟩ := HLK6.out
              have hsb7 := hsb.lowset (w' := w7) hlow (Nat.le_of_eq hz7.symm)
              refine (squeeze148_any (fun _ => False) 176 _ bl cs' gn m w0.heap.size Bm lim HM2.out.symm hg1 hg16 w7 ⟨y1.s, kk⟩ HGD.out.rest hsb7 (by have := HSZ6.out; omega) (by show y1.s.t.length ≤ _; have := HGD.out.n2; omega) HGD.out.n1).mono fun e w' h => ?_
              obtain ⟨A, c, B, h1, h2, -, h3⟩ := h.done ⟨by decide, by decide, by decide⟩ HGD.out.rest (by show y1.s.t.length ≤ _; have := HGD.out.n2; omega) (by show Comp gn y1.s y1.s.t.length; rw [hfl]; exact HCP.out) hsb7
              exact ⟨A, c, B, h1, h2, h3⟩)
            have HRC7 := Lib.hid hrc7
            have HP7 := Lib.hid hp7
            have HBW7 := Lib.hid hbw7
            have HZ7 : Hid (w0.heap.size ≤ w7.heap.size) := Lib.hid (by have := HSZ6.out; omega)
            have HQ4 : Hid (Q + 1 + 1 + 1 < w0.heap.size) := Lib.hid hqq
            clear hrc7 hlow hp7 hbw7 hz7 c0 c1 c2 c3 c4 f0 f1 f2 f3 f4 hp0 hp1 d2 d7 d11 d12 hws hqq
            generalize (stdE gn (tabS y1.s) 0).1 = T0 at *
            generalize (tabS y1.s).length = nt at *
            go_wp2_with (first
              | (go_at_call 148; (with_reducible refine HSQ.out.mono ?_); rintro e w10 ⟨A10, c10, B10, rfl, ht10, hb10⟩
                 have HB10 := Lib.hid hb10
                 have HT10 := Lib.hid ht10
                 have hp0 := (hb10.cell (p := ⟨Q, 0, none⟩) (by show Q < w0.heap.size; have := HQ4.out; omega)).trans HP7.out.1
                 have HL10 := Lib.hid (Nat.le_trans HZ7.out hb10.size)
                 clear hb10 ht10)
              | (go_at_call 56; (with_reducible refine (H48.out w10 _ HT10.out).mono ?_); rintro e w11 ⟨⟨u11, rfl, ht11⟩, hb11⟩
                 have hb11' : Below w0.heap.size w7 w11 := HB10.out.trans (hb11.mono HL10.out)
                 have hrc11 := HRC7.out.below HQ4.out hb11'
                 have HRC11 := Lib.hid hrc11
                 have HBW11 : Hid (Below Q w w11) := Lib.hid (HBW7.out.trans (hb11'.mono (by have := HQ4.out; omega)))
                 have HT11 := Lib.hid (ht11.low HL10.out)
                 have HL11 := Lib.hid (Nat.le_trans HL10.out hb11.size)
                 obtain ⟨c0, c1, c2, c3, c4, f0, f1, f2, f3, f4⟩ := hrc11
                 obtain ⟨A5, n5, rfl⟩ := Tab.form ht11.at_
                 clear hb11 hb11' ht11))
            have hq4 : Q + 1 + 1 + 1 < w0.heap.size := HQ4.out
            have HT12 := Lib.hid ((HT11.out.setCell (p := ⟨Q + 1, 0, none⟩) (by show Q + 1 < w0.heap.size; omega) (.slice A5 T0.length n5)).setCell (p := ⟨Q + 1 + 1 + 1, 0, none⟩) hq4 (.int .i64 0))
            have hrc12 := HRC11.out.set2 (.slice A5 T0.length n5) 0
            have HW12 : Hid (Below Q w ((w11.setCell ⟨Q + 1, 0, none⟩ (.slice A5 T0.length n5)).setCell ⟨Q + 1 + 1 + 1, 0, none⟩ (.int .i64 0))) := Lib.hid ((HBW11.out.setCell (p := ⟨Q + 1, 0, none⟩) (by show Q ≤ Q + 1; omega) _).setCell (p := ⟨Q + 1 + 1 + 1, 0, none⟩) (by show Q ≤ Q + 1 + 1 + 1; omega) _)
            generalize (w11.setCell ⟨Q + 1, 0, none⟩ (.slice A5 T0.length n5)).setCell ⟨Q + 1 + 1 + 1, 0, none⟩ (.int .i64 0) = W12 at *
            have HRC13 := Lib.hid (hrc12.set (.slice A5 T0.length n5) ((nf : Int) + (rm : Int)) mo (lk : Int) 0)
            refine leaves_cons (f := 142) (args := #[.pointer (some ⟨Q + 1, 0, none⟩), .pointer (some ⟨Q + 1 + 1, 0, none⟩), .pointer (some ⟨Q + 1 + 1 + 1, 0, none⟩)]) (by simp) (by simp [go_sem]) ?_
            refine (ended_idle _ _ _ _).mono ?_
            rintro e u' w14 ⟨rfl, rfl, hb14⟩
            have hb13 : Below (setR (Q + 1) W12 (.slice A5 T0.length n5) ((nf : Int) + (rm : Int)) mo (lk : Int) 0).heap.size (setR (Q + 1) W12 (.slice A5 T0.length n5) ((nf : Int) + (rm : Int)) mo (lk : Int) 0) w14 := hb14
            have hrc14 : ResC (Q + 1) w14 (.slice A5 T0.length n5) ((nf : Int) + (rm : Int)) mo (lk : Int) 0 := HRC13.out.below HRC13.out.lt hb13
            refine leave87 hrc14 _ rfl rfl rfl ?_
            unfold LookPost
            rw [HEN.out]
            simp only [Int.natCast_add]
            have hT13 := setR_tabB HT12.out (q := Q + 1) (by omega) hq4 (.slice A5 T0.length n5) ((nf : Int) + (rm : Int)) mo (lk : Int) 0
            have hb0z := HB0.out.size
            refine ⟨⟨_, rfl, (hT13.belowB hb13).low hb0z⟩, ?_⟩
            have hb7 := setR_below HW12.out (q := Q + 1) (by omega) (.slice A5 T0.length n5) ((nf : Int) + (rm : Int)) mo (lk : Int) 0
            rw [HQ.out]
            exact hb7.trans (hb13.mono (by have := hb7.size; have := HQ.out; omega))
  · have HEN := Lib.hid (lookE_bad he)
    have HBD : Hid (Calls Try.prog 141 #[.agg #[.int .i64 g, .slice Ar rels.length cr], .slice As sub.length cs, .int .i64 limit] w0 fun e w' => e = .returned (.tuple #[.agg zero151, .int .i64 (givenE g rels sub limit)]) ∧ Below w0.heap.size w0 w') := Lib.hid ((HBG.out w0 HT0.out HS0.out).mono fun e w' ⟨h, hb⟩ => ⟨by
      rcases h with ⟨-, h⟩ | ⟨h, -⟩
      · exact h
      · exact absurd h he, hb⟩)
    have d1 : (givenE g rels sub limit != 0) = true := by simpa using he
    clear he HBG
    generalize givenE g rels sub limit = x at *
    go_wp2_with (first
      | (go_at_call 141; (with_reducible refine HBD.out.mono ?_); rintro e w1 ⟨rfl, hb⟩
         have hal : Below w1.heap.size w1 (w1.alloc (.cells zero151 151)) := (Below.refl _ _).alloc (Nat.le_refl _) _
         have hb1 : Below w0.heap.size w0 (w1.alloc (.cells zero151 151)) := hb.trans (hal.mono hb.size)
         have HN1 := Lib.hid (heap_alloc_new w1 (.cells zero151 151))
         have hrc := (HBX.out _ hb1).2.2
         have HRC2 := Lib.hid ((hrc.setE x).set (.slice none 0 0) 0 0 0 x)
         have HB1 := Lib.hid hb1
         obtain ⟨c0, c1, c2, c3, c4, f0, f1, f2, f3, f4⟩ := hrc
         clear hb hal hb1)
      | ((with_reducible refine wpList_sel 9 ?_); refine wpList_val rfl (r_alloc151 rfl) ?_; refine wpList_skip rfl (r_store151 (.tmp 9) (.tmp 20) rfl w1.heap.size zero151 zero151 rfl rfl HN1.out rfl rfl zero151_one) ?_; rw [World.setRow_alloc_new]; generalize w1.alloc (.cells zero151 151) = w2 at *))
    refine leave87 (q := w.heap.size + 1) HRC2.out _ rfl rfl rfl ?_
    exact LookPost.err HEN.out (setR_below ((HB0.out.trans (HB1.out.mono HB0.out.size)).setCell (p := ⟨w.heap.size + 1 + 1 + 1, 0, none⟩) (by show w.heap.size ≤ w.heap.size + 1 + 1 + 1; omega) _) (by omega) _ _ _ _ _)
end Go.Proofs
