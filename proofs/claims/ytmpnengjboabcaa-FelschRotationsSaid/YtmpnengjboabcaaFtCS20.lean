/- felsch.Felsch. -/
import Derived.Test.YtmpnengjboabcaaFtCS19
import Derived.Deep.WholeRow
namespace Go.Proofs
open Go.RowKit Go.Shelf Go.Proofs.Ct Go.Maps
theorem ResC.setE {q : Nat} {w : World} {v : Value} {a b c e : Int} (h : ResC q w v a b c e) (e' : Int) : ResC q (w.setCell ⟨q + 1 + 1, 0, none⟩ (.int .i64 e')) v a b c e' := by
  obtain ⟨c0, c1, c2, c3, c4, f0, f1, f2, f3, f4⟩ := h
  refine ⟨(cell_set c0 _).trans ?_, (cell_set c1 _).trans ?_, (cell_set c2 _).trans ?_, (cell_set c3 _).trans ?_, (cell_set c4 _).trans ?_, ?_, ?_, ?_, ?_, ?_⟩ <;> simp [f0, f1, f2, f3, f4]
theorem res85 {q : Nat} {w : World} {v : Value} {a b c e : Int} (h : ResC q w v a b c e) (tmps : Array Value) (h6 : tmps[6]? = some (.pointer (some ⟨q, 0, none⟩))) (h7 : tmps[7]? = some (.pointer (some ⟨q + 1, 0, none⟩))) (h8 : tmps[8]? = some (.pointer (some ⟨q + 1 + 1, 0, none⟩))) :
    (results Try.f85 tmps).run Try.prog w = .ok (.tuple #[v, .agg #[.int .i64 a, .int .i64 b, .int .i64 c], .int .i64 e]) w := by
  obtain ⟨c0, c1, c2, c3, c4, -, -, -, -, -⟩ := h
  simp [results, Try.results85, go_sem, h6, h7, h8, asAddr, c0, c1, c2, c3, c4]
theorem leave85 {q : Nat} {w : World} {v : Value} {a b c e : Int} (h : ResC q w v a b c e) (tmps : Array Value) (h6 : tmps[6]? = some (.pointer (some ⟨q, 0, none⟩))) (h7 : tmps[7]? = some (.pointer (some ⟨q + 1, 0, none⟩))) (h8 : tmps[8]? = some (.pointer (some ⟨q + 1 + 1, 0, none⟩))) {R : Ending → World → Prop}
    (hR : R (.returned (.tuple #[v, .agg #[.int .i64 a, .int .i64 b, .int .i64 c], .int .i64 e])) w) : Leaves Try.prog Try.f85 tmps R [] .returning w := ⟨_, res85 h tmps h6 h7 h8, hR⟩
theorem build161 (v0 v1 v2 v3 v4 v5 v6 v7 : Value) (B : Option Nat) (w : World) : (Instr.build 161 #[(0, .agg #[v0, v1, v2, v3, v4, v5, v6, v7]), (1, .map B)]).run Try.prog w = .ok (.agg #[v0, v1, v2, v3, v4, v5, v6, v7, .map B]) w := by kernel_rfl
theorem r_build161 {o : Oper} {a : Act} {w : World} (x y : Operand) (v0 v1 v2 v3 v4 v5 v6 v7 : Value) (B : Option Nat) (ho : o.op = .build 161 #[(0, x), (1, y)]) (hx : a.eval x = .agg #[v0, v1, v2, v3, v4, v5, v6, v7]) (hy : a.eval y = .map B) : (execOp a.eval o).run Try.prog w = .ok (.value (.agg #[v0, v1, v2, v3, v4, v5, v6, v7, .map B])) w := by
  have hb := build161 v0 v1 v2 v3 v4 v5 v6 v7 B w
  unfold execOp
  simp only [ho, List.map_toArray, List.map_cons, List.map_nil, hx, hy, Sem.run_bind, hb, Result.andThen_ok]
  rfl
structure WrdI (Bm b lo c : Nat) (C : Array Value) (ws : Nat → List W) (fm : Int → Value) (w3 W : World) : Prop where
  below : Below Bm w3 W
  size : lo ≤ W.heap.size
  box : W.heap[b]? = some (.cells C 161 (0, 0))
  map : MapL W Bm c fm
  tabs : ∀ j, j < c → TabB lo W (fm (letter j)) (ws j)
theorem letter_inj2 {a b : Nat} (h : letter a = letter b) : a = b := by
  unfold letter at h
  split at h <;> split at h <;> omega
section
variable {Bm b lo c : Nat} {C : Array Value} {ws : Nat → List W} {fm : Int → Value} {w3 W W' : World}
theorem WrdI.later (h : WrdI Bm b lo c C ws fm w3 W) (hl : Bm < lo) (hb : Below W.heap.size W W') : WrdI Bm b lo c C ws fm w3 W' :=
  ⟨h.below.trans (hb.mono (by have := h.size; omega)), Nat.le_trans h.size hb.size, (hb.block _ (Array.getElem?_eq_some_iff.1 h.box).1).trans h.box, h.map.keep (hb.block _ h.map.lt), fun j hj => (h.tabs j hj).belowB hb⟩
theorem WrdI.put (h : WrdI Bm b lo c C ws fm w3 W) (hl : Bm < lo) (hbm : b ≠ Bm) (hc : c ≤ 1000) {v : Value} (hv : TabB lo W v (ws c)) :
    ∃ w', (Instr.mapUpdate 159 (.map (some Bm)) (.int .i64 (letter c)) v).run Try.prog W = .ok () w' ∧ WrdI Bm b lo (c + 1) C ws (fun x => if x = letter c then v else fm x) w3 w' ∧ W.heap.size ≤ w'.heap.size ∧ ∀ k, lo ≤ k → k < W.heap.size → w'.heap[k]? = W.heap[k]? := by
  have hlb := letter_bd (c := c) (by omega)
  obtain ⟨w', hr, hm, hg⟩ := h.map.put (s := letter c) ⟨by omega, by omega⟩ hc v
  have hk : ∀ k, lo ≤ k → k < W.heap.size → w'.heap[k]? = W.heap[k]? := fun k h1 h2 => hg.block k h2 (fun e => by have := Option.some.inj e; omega)
  refine ⟨w', hr, ⟨?_, Nat.le_trans h.size hg.size, (hg.block b (Array.getElem?_eq_some_iff.1 h.box).1 (fun e => hbm (Option.some.inj e))).trans h.box, hm, fun j hj => ?_⟩, hg.size, hk⟩
  · exact h.below.grown hg (by have := h.size; omega) (fun r hr => Option.some.inj hr ▸ Nat.le_refl _)
  · by_cases e : j = c
    · subst e
      simp only [if_true]
      exact hv.keep hg.size hk
    · rw [if_neg (fun e' => e (letter_inj2 e'))]
      exact (h.tabs j (by omega)).keep hg.size hk
end
def WdF (b Bm c lo : Nat) (pv : Value) (ws : List W) : Nat → Value → World → Prop
  | 9, v, w => TabB lo w v ws
  | i, v, _ => v = ([.pointer (some ⟨b, 0, none⟩), .pointer (some ⟨b, 0, none⟩), .pointer (some ⟨b, 8, none⟩), .map (some Bm), .int .i64 (c : Int), .int .i64 (letter c), pv, .int .i64 (c : Int), .int .i64 (letter c), undef, undef] : List Value).getD i undef
def WdG (lo : Nat) (_i : Nat) (w w' : World) : Prop := w.heap.size ≤ w'.heap.size ∧ ∀ k, lo ≤ k → k < w.heap.size → w'.heap[k]? = w.heap[k]?
theorem WdG.same {lo i : Nat} {w : World} : WdG lo i w w := ⟨Nat.le_refl _, fun _ _ _ => rfl⟩
theorem WdG.of_below {lo i : Nat} {w w' : World} (h : Below w.heap.size w w') : WdG lo i w w' := ⟨h.size, fun k _ h2 => h.block k h2⟩
theorem WdF.keep {b Bm c lo : Nat} {pv : Value} {ws : List W} : ∀ (i j : Nat) (v : Value) (w w' : World), i < 11 → j < 11 → i ≠ j → WdG lo i w w' → WdF b Bm c lo pv ws j v w → WdF b Bm c lo pv ws j v w' := by
  intro i j v w w' _ hj _ hS h
  by_cases e : j = 9
  · subst e
    have h' : TabB lo w v ws := h
    exact h'.keep hS.1 hS.2
  · unfold WdF at h ⊢
    split at h
    · exact absurd rfl e
    · exact h
theorem load40c {w : World} {b : Nat} {v0 v1 : Value} (h0 : w.cell? ⟨b, 0, none⟩ = some v0) (h1 : w.cell? ⟨b, 1, none⟩ = some v1) : (Instr.loadAt 40 (.pointer (some ⟨b, 0, none⟩))).run Try.prog w = .ok (.agg #[v0, v1]) w := by
  have hr : w.rangeAt b 0 [v0, v1] := fun j v hj => by
    match j, hj with
    | 0, hj => rw [Nat.add_zero, h0]; simpa using hj
    | 1, hj => rw [h1]; simpa using hj
  exact run_loadAt_mid (P := Try.prog) w b 0 40 [v0, v1] _ hr Try.underlying40 rfl (by kernel_rfl)
theorem call139 (args : Array Value) (w : World) : (callFunc 139 args).run Try.prog w = .ok (.enter 139 args) w := enters_of Try.func139 (by kernel_rfl) rfl args w
theorem words2_len {rels : List W} {n : Nat} (h : ∀ j, (rels.getD j []).length ≤ n) (x : Int) : ∀ k, ∀ v ∈ wordsTo2 rels x k, v.length ≤ n
  | 0, v, hv => by cases hv
  | k + 1, v, hv => by
    have hrot : ∀ (w : W) (j : Nat), j < w.length → (w.drop j ++ w.take j).length = w.length := fun w j hj => by rw [List.length_append, List.length_drop, List.length_take]; omega
    have hv' : v ∈ rotL (rotL (wordsTo2 rels x k) (rels.getD k []) x) (Ct.inv (rels.getD k [])) x := hv
    rcases mem_rotTo hv' with h1 | ⟨j, hj, -, rfl⟩
    · rcases mem_rotTo h1 with h1 | ⟨j, hj, -, rfl⟩
      · exact words2_len h x k v h1
      · rw [hrot _ _ hj]; exact h k
    · rw [hrot _ _ hj, length_inv]; exact h k
theorem wsF_len {rels : List W} {n : Nat} (h : ∀ j, (rels.getD j []).length ≤ n) (c j : Nat) : ((wsF rels c).getD j []).length ≤ n := by
  rcases Nat.lt_or_ge j (wsF rels c).length with hj | hj
  · exact words2_len h (letter c) _ _ (mem_getD0 hj)
  · rw [List.getD_eq_getElem?_getD, List.getElem?_eq_none hj]; exact Nat.zero_le _
theorem fine_start {g : Nat} (hg1 : 1 ≤ g) (hg : g ≤ 16) : Fine g (startF (2 * g)) := by
  have hn : (startF (2 * g)).s.t.length = 1 := by unfold startF startS; rw [length_add]; rfl
  have hr := (startF_good (g := g) (lim := 1) (Nat.le_refl _)).rest
  refine ⟨hg1, hg, hr, by omega, ?_⟩
  have hlv := live_le_n hr.rest
  have hu : undT (startF (2 * g)).s.t ≤ (startF (2 * g)).s.t.length * (2 * g) := und_le fun r hr' => hr.rest.inv.len r hr'
  have hk : (startF (2 * g)).k.length = 0 := rfl
  rw [hn] at hu hlv
  have h5 : (startF (2 * g)).s.live.toNat * (3 * (1 * (2 * g)) + 1) ≤ 1 * 97 := Nat.mul_le_mul (by omega) (by omega)
  unfold Ct.pot
  rw [hn, hk]
  omega
theorem sub_next {g m lim : Nat} {rels : List W} {w : W} {f f' : FS} (hm : m = 2 * g) (hlo : ∀ j, LOk g (rels.getD j [])) (hso : LOk g w) (hG : FGood g lim f) (e : fillFS m lim f 0 w = some f') (hF : Fine g f') : FGood g lim f' ∧ FGood g lim (ded m (wsF rels) f') ∧ Fine g (ded m (wsF rels) f') := by
  subst hm
  have h1 := (fillFF_good _ hG hG.good.n1 (Ct.rp_zero hG.good.rest hG.good.n1) hso f' e).1
  have h2 := (ded_F (ws := wsF rels) (fun c _ => wsF_ok (fun j _ => hlo j) c) h1.rest).1
  exact ⟨h1, h1.ext h2, hF.ext h2⟩
theorem round_m {g m lim : Nat} {rels sub : List W} {f1 : FS} (hm : m = 2 * g) (hlo : ∀ j, LOk g (rels.getD j [])) (hso : ∀ j, LOk g (sub.getD j [])) (hG : FGood g lim f1) :
    (FGood g lim (ded m (wsF rels) f1) ∧ FExt g f1 (ded m (wsF rels) f1) ∧ (ded m (wsF rels) f1).k = []) ∧ (compF m lim (wsF rels) (ded m (wsF rels) f1) = none → rndF m lim rels sub f1 = none) ∧
    ∀ f2, compF m lim (wsF rels) (ded m (wsF rels) f1) = some f2 → FGood g lim f2 ∧ (∀ n, n ≤ f2.s.t.length → FExt g f2 (chkTo m rels n f2)) ∧ FExt g f2 (chkF m rels sub f2) ∧
      ((chkF m rels sub f2).s.live = f2.s.live → rndF m lim rels sub f1 = some (chkF m rels sub f2)) ∧ ((chkF m rels sub f2).s.live ≠ f2.s.live → rndF m lim rels sub f1 = rndF m lim rels sub (chkF m rels sub f2) ∧ rpot lim (chkF m rels sub f2) < rpot lim f1) := by
  subst hm
  have hr : ∀ j, j < rels.length → LOk g (rels.getD j []) := fun j _ => hlo j
  have hs : ∀ j, j < sub.length → LOk g (sub.getD j []) := fun j _ => hso j
  obtain ⟨h2, h3⟩ := ded_F (ws := wsF rels) (fun c _ => wsF_ok hr c) hG.rest
  have hst := rndF_step (sub := sub) hr hs hG
  refine ⟨⟨hG.ext h2, h2, h3⟩, fun e => by rw [hst, e], fun f2 e => ?_⟩
  obtain ⟨r1, -, -, r4, r5⟩ := round_less hr hs hG e
  rw [e] at hst
  refine ⟨r1, fun n hn => chkTo_F hr r1.rest n hn, r4, fun hl => ?_, fun hl => ⟨?_, r5 hl⟩⟩
  · rw [hst]; exact if_pos hl
  · rw [hst]; exact if_neg hl
theorem StF.live {K : Nat → Prop} {T : TypeId} {ex : List Value} {base b wd lim : Nat} {w : World} {f : FS} (h : StF K T ex base b wd lim w f) : w.cell? ⟨b, 6, none⟩ = some (.int .i64 f.s.live) ∧ w.cell? ⟨b, 7, none⟩ = some (.int .i64 f.s.most) := by
  obtain ⟨bl, cs, -, P, vr, vp, vq, vk, hB, -⟩ := h
  exact ⟨hB.cells.2.2.2.2.2.2.1, hB.cells.2.2.2.2.2.2.2⟩
theorem StF.rows2 {K : Nat → Prop} {T : TypeId} {ex : List Value} {base b wd lim : Nat} {w : World} {f : FS} (h : StF K T ex base b wd lim w f) : ∃ A c, w.cell? ⟨b, 2, none⟩ = some (.slice A f.s.t.length c) := by
  obtain ⟨bl, cs, h⟩ := h
  exact h.rows
theorem SqueezePost.done {K : Nat → Prop} {T : TypeId} {ex : List Value} {bl cs : Nat → Nat} {g m base b lim : Nat} {w w' : World} {f : FS} {e : Ending} (hT : TyF T) (hR : Ct.Rest g f.s) (hn : f.s.t.length ≤ 100000) (hC : Comp g f.s f.s.t.length) (hS : StFB K T ex bl cs base b m lim w f) (h : SqueezePost base f.s bl cs w e w') :
    ∃ A c B, e = .returned (.tuple #[B, .slice A (tabS f.s).length c]) ∧ Tab w' (.slice A (tabS f.s).length c) (tabS f.s) ∧ w'.cell? ⟨b, 7, none⟩ = some (.int .i64 f.s.most) ∧ Below base w w' := by
  obtain ⟨A, c, rfl, -, hO, hX, hK, hb⟩ := h
  have hlt := length_tab f.s
  have htab : (liv f.s).map (sqRow f.s) = tabS f.s := sq_tab hR fun r hr hl c hc => by
    have := hC r hr hr c hc
    rwa [hl] at this
  have hS' := hS
  obtain ⟨-, P, vr, vp, vq, vk, hB, hM, -, -⟩ := hS'
  refine ⟨A, c, _, by rw [hlt], ?_, ?_, hb⟩
  · rw [hlt]
    refine ⟨_, sl_of_owns hO, by simp [hlt], fun i hi => ?_⟩
    rw [hlt] at hi
    obtain ⟨h1, h2, h3⟩ := liv_at (s := f.s) hi
    refine ⟨rowV f.s bl cs ((liv f.s).getD i 0), by simp [List.getD_eq_getElem?_getD, hi], ?_⟩
    have he : (tabS f.s).getD i [] = sqRow f.s ((liv f.s).getD i 0) := by rw [← htab]; simp [List.getD_eq_getElem?_getD, hi]
    rw [he]
    obtain ⟨-, -, h4, h5⟩ := hM.row _ h1
    refine XsAt.ints (hX i hi) (len_sqRow _) h4 h5 fun z hz => ?_
    obtain ⟨v, hv, rfl⟩ := List.mem_map.1 hz
    obtain ⟨c', hc', rfl⟩ := List.mem_iff_getElem.1 hv
    have hbd := hR.inv.bd _ h1 c' (by rw [← hR.inv.len _ h1]; exact hc')
    unfold Tb.at at hbd
    rw [List.getD_eq_getElem?_getD, List.getElem?_eq_getElem hc'] at hbd
    simp only [Option.getD_some] at hbd
    split
    · have := livTo_le f.s ((f.s.t.row ((liv f.s).getD i 0))[c'].toNat)
      show -9223372036854775808 ≤ ((num f.s _ : Nat) : Int) ∧ ((num f.s _ : Nat) : Int) ≤ 9223372036854775807
      unfold num
      omega
    · omega
  · have hne : ∀ i, i < (liv f.s).length → b ≠ bl ((liv f.s).getD i 0) := fun i hi e => by
      obtain ⟨C, hC, -⟩ := (hM.row _ (liv_at (s := f.s) hi).1).2.1
      have h1 := hB.box
      rw [e, hC] at h1
      injection h1 with h1
      injection h1 with _ h1 _
      exact hT.a h1.symm
    have h1 := hK b hB.lt hne
    have h2 := hB.cells.2.2.2.2.2.2.2
    unfold World.cell? at h2 ⊢
    simp only [h1]
    exact h2
abbrev S31 (q p : Nat) (u m : Value) (W : World) : Prop := W.cell? ⟨q, 0, none⟩ = some u ∧ W.cell? ⟨p, 7, none⟩ = some m ∧ W.cell? ⟨q + 1 + 1, 0, none⟩ = some (.int .i64 0)
theorem S31.drew {q p : Nat} {u m : Value} {W : World} (h : S31 q p u m W) : S31 q p u m W.drew := h
theorem S31.st0 {q p : Nat} {u m : Value} {W : World} (h : S31 q p u m W) : S31 q p u m (W.setCell ⟨q, 0, none⟩ u) :=
  ⟨(cell_set h.1 _).trans (by simp), (cell_set h.2.1 _).trans (by simp), (cell_set h.2.2 _).trans (by simp)⟩
theorem S31.st1 {q p : Nat} {u m : Value} {W : World} (h : S31 q p u m W) (a b : Value) (_hne : q + 1 ≠ p) : ∀ c : Value, S31 q p u m (((W.setCell ⟨q + 1, 0, none⟩ a).setCell ⟨q + 1, 1, none⟩ b).setCell ⟨q + 1, 2, none⟩ c) := fun c =>
  ⟨(cell_set (cell_set (cell_set h.1 _) _) _).trans (by simp), (cell_set (cell_set (cell_set h.2.1 _) _) _).trans (by simp), (cell_set (cell_set (cell_set h.2.2 _) _) _).trans (by simp)⟩
theorem S31.st2 {q p : Nat} {u m : Value} {W : World} (h : S31 q p u m W) : S31 q p u m (W.setCell ⟨q + 1 + 1, 0, none⟩ (.int .i64 0)) :=
  ⟨(cell_set h.1 _).trans (by simp), (cell_set h.2.1 _).trans (by simp), (cell_set h.2.2 _).trans (by simp)⟩
def FelschPost (g : Int) (rels sub : List W) (limit : Int) (w : World) (e : Ending) (w' : World) : Prop :=
  (∃ u, e = .returned (.tuple #[u, .agg #[.int .i64 (felschE g rels sub limit).2.1.1, .int .i64 (felschE g rels sub limit).2.1.2, .int .i64 0], .int .i64 (felschE g rels sub limit).2.2]) ∧ TabB w.heap.size w' u (felschE g rels sub limit).1) ∧ Below w.heap.size w w'
theorem FelschPost.err {g : Int} {rels sub : List W} {limit : Int} {w w' : World} {x : Int} (h : felschE g rels sub limit = ([], (0, 0), x)) (hb : Below w.heap.size w w') : FelschPost g rels sub limit w (.returned (.tuple #[.slice none 0 0, .agg #[.int .i64 0, .int .i64 0, .int .i64 0], .int .i64 x])) w' := by
  unfold FelschPost
  rw [h]
  exact ⟨⟨_, rfl, TabB.nil⟩, hb⟩
set_option maxRecDepth 100000 in
set_option maxHeartbeats 1000000 in
theorem felsch85_B (w : World) (vr vs : Value) (g : Int) (rels sub : List W) (limit : Int) (hR : Tab w vr rels) (hS : Tab w vs sub) (hlr : ∀ j, (rels.getD j []).length ≤ 100) (hsm : ∀ j, (sub.getD j []).length ≤ 100000) (hsl : sub.length ≤ 1000000) (hlim : limit ≤ 1000 ∨ 20000 < limit) :
    Calls Try.prog 85 #[.agg #[.int .i64 g, vr], vs, .int .i64 limit] w (FelschPost g rels sub limit w) := by
  obtain ⟨Ar, cr, rfl⟩ := Tab.form hR
  obtain ⟨As, cs, rfl⟩ := Tab.form hS
  have HBG : Hid (∀ W, Tab W (.slice Ar rels.length cr) rels → Tab W (.slice As sub.length cs) sub → Calls Try.prog 141 #[.agg #[.int .i64 g, .slice Ar rels.length cr], .slice As sub.length cs, .int .i64 limit] W (BeginPost g rels sub limit W)) := Lib.hid fun W h1 h2 => begin141_any W _ _ g rels sub limit h1 h2 hsm hsl
  have HPB : Hid (∀ w0 : World, w0 = (((w.alloc (.cells #[.int .i64 g, .slice Ar rels.length cr] 40)).alloc (.cells #[.slice none 0 0] 23)).alloc (.cells #[.int .i64 0, .int .i64 0, .int .i64 0] 49)).alloc (.cells #[.int .i64 0] 28) → Below w.heap.size w w0 ∧ w0.heap.size = w.heap.size + 4 ∧ w0.heap[w.heap.size]? = some (.cells #[.int .i64 g, .slice Ar rels.length cr] 40 (0, 0)) ∧ ResC (w.heap.size + 1) w0 (.slice none 0 0) 0 0 0 0) := Lib.hid fun w0 h => by
    subst h
    refine ⟨((((Below.refl _ _).alloc (Nat.le_refl _) _).alloc (by simp) _).alloc (by simp; omega) _).alloc (by simp; omega) _, by simp, ?_, resC_made w _⟩
    have h0 := heap_alloc_new w (.cells #[.int .i64 g, .slice Ar rels.length cr] 40)
    have hb : Below (w.heap.size + 1) (w.alloc (.cells #[.int .i64 g, .slice Ar rels.length cr] 40)) ((((w.alloc (.cells #[.int .i64 g, .slice Ar rels.length cr] 40)).alloc (.cells #[.slice none 0 0] 23)).alloc (.cells #[.int .i64 0, .int .i64 0, .int .i64 0] 49)).alloc (.cells #[.int .i64 0] 28)) := (((Below.refl _ _).alloc (by simp) _).alloc (by simp) _).alloc (by simp) _
    exact (hb.block _ (by omega)).trans h0
  have HRR := Lib.hid hR
  have HSS := Lib.hid hS
  clear hR hS
  go_enter_defers Try.func85, Try.ntmps85
  go_wp2_with fail
  generalize hw0 : (((w.alloc (.cells #[.int .i64 g, .slice Ar rels.length cr] 40)).alloc (.cells #[.slice none 0 0] 23)).alloc (.cells #[.int .i64 0, .int .i64 0, .int .i64 0] 49)).alloc (.cells #[.int .i64 0] 28) = w0 at *
  obtain ⟨hb0, hsz, hbp, hrc⟩ := HPB.out w0 rfl
  have HB0 := Lib.hid hb0
  have HSZ := Lib.hid hsz
  have HBX : Hid (∀ W, Below w0.heap.size w0 W → W.cell? ⟨w.heap.size, 0, none⟩ = some (.int .i64 g) ∧ W.cell? ⟨w.heap.size, 1, none⟩ = some (.slice Ar rels.length cr) ∧ ResC (w.heap.size + 1) W (.slice none 0 0) 0 0 0 0) := Lib.hid fun W h => by
    obtain ⟨a, b⟩ := cell_of2 ((h.block _ (Array.getElem?_eq_some_iff.1 hbp).1).trans hbp)
    exact ⟨a, b, hrc.below hrc.lt h⟩
  have HT0 := Lib.hid (kept_tab.below HRR.out hb0)
  have HS0 := Lib.hid (kept_tab.below HSS.out hb0)
  clear hw0 hb0 hsz hbp hrc HPB
  obtain ⟨hc0, hc1, -⟩ := HBX.out w0 (Below.refl _ _)
  by_cases he : givenE g rels sub limit = 0
  · obtain ⟨gn, lim, rfl, rfl, hg1, hg16, hrl, hrg, hlo, hso, hsl2, hl1, hl2⟩ := givenE_all he
    have HBD : Hid (Calls Try.prog 141 #[.agg #[.int .i64 (gn : Int), .slice Ar rels.length cr], .slice As sub.length cs, .int .i64 (lim : Int)] w0 fun e w' => (∃ C, e = .returned (.tuple #[.agg C, .int .i64 0]) ∧ CosF w0.heap.size (2 * gn) lim w' C (startF (2 * gn))) ∧ Below w0.heap.size w0 w') := Lib.hid ((HBG.out w0 HT0.out HS0.out).mono fun e w' ⟨h, hb⟩ => ⟨by
      rcases h with ⟨h, -⟩ | ⟨-, C, h1, h2⟩
      · exact absurd he h
      · rw [Int.toNat_natCast, Int.toNat_natCast] at h2
        exact ⟨C, h1, h2⟩, hb⟩)
    have hlim2 : lim ≤ 1000 := by omega
    have HE := Lib.hid he
    have HRG := Lib.hid hrg
    have HLO := Lib.hid hlo
    have HSO := Lib.hid hso
    have hmm : ∀ w, (Instr.makeMap 159 none).run Try.prog w = .ok (.map (some w.heap.size)) (w.alloc (.map #[] 0)) := fun _ => rfl
    clear he HBG hlim hrg hlo hso
    go_wp2_with (first
      | (go_at_call 141; (with_reducible refine HBD.out.mono ?_); rintro e w1 ⟨⟨C, rfl, hC⟩, hb⟩
         obtain ⟨C0, C1, C2, C3, C4, C5, C6, C7, rfl⟩ : ∃ C0 C1 C2 C3 C4 C5 C6 C7, C = #[C0, C1, C2, C3, C4, C5, C6, C7] := by
           obtain ⟨bl, css, P, vr, vp, vq, vk, rfl, -⟩ := hC
           exact ⟨_, _, _, _, _, _, _, _, rfl⟩
         have hal : Below w1.heap.size w1 (w1.alloc (.cells #[C0, C1, C2, C3, C4, C5, C6, C7] 151)) := (Below.refl _ _).alloc (Nat.le_refl _) _
         have hb1 : Below w0.heap.size w0 (w1.alloc (.cells #[C0, C1, C2, C3, C4, C5, C6, C7] 151)) := hb.trans (hal.mono hb.size)
         have HN1 := Lib.hid (heap_alloc_new w1 (.cells zero151 151))
         have HN2 := Lib.hid (heap_alloc_new w1 (.cells #[C0, C1, C2, C3, C4, C5, C6, C7] 151))
         have hrc := (HBX.out _ hb1).2.2
         have HRC2 := Lib.hid (hrc.setE 0)
         have HB1 := Lib.hid hb1
         have HAL := Lib.hid hal
         have HONE := Lib.hid hC.one
         have HC := Lib.hid hC
         have HZ1 := Lib.hid hb.size
         have HZ2 : Hid ((w1.alloc (.cells #[C0, C1, C2, C3, C4, C5, C6, C7] 151)).heap.size = w1.heap.size + 1) := Lib.hid (by simp)
         obtain ⟨c0, c1, c2, c3, c4, f0, f1, f2, f3, f4⟩ := hrc
         clear hb hal hb1 hC)
      | ((with_reducible refine wpList_sel 9 ?_); refine wpList_val rfl (r_alloc151 rfl) ?_; refine wpList_skip rfl (r_store151 (.tmp 9) (.tmp 24) rfl w1.heap.size zero151 _ rfl rfl HN1.out rfl rfl HONE.out) ?_; rw [World.setRow_alloc_new]; generalize w1.alloc (.cells #[C0, C1, C2, C3, C4, C5, C6, C7] 151) = w2 at *)
      | ((with_reducible refine wpList_sel 30 ?_)
         clear c0 c1 c2 c3 c4 f0 f1 f2 f3 f4
         have hlow : w.heap.size + 1 + 1 + 1 < w0.heap.size := by have := HSZ.out; omega
         have hn3 : (w2.setCell ⟨w.heap.size + 1 + 1 + 1, 0, none⟩ (.int .i64 0)).heap[w1.heap.size]? = some (.cells #[C0, C1, C2, C3, C4, C5, C6, C7] 151 (0, 0)) := (Below.heap_setCell w2 ⟨w.heap.size + 1 + 1 + 1, 0, none⟩ (.int .i64 0) w1.heap.size (by show w1.heap.size ≠ w.heap.size + 1 + 1 + 1; have := HZ1.out; omega)).trans HN2.out
         have hcos := HC.out.keep (w' := w2.setCell ⟨w.heap.size + 1 + 1 + 1, 0, none⟩ (.int .i64 0)) (fun k h1 h2 => (Below.heap_setCell w2 ⟨w.heap.size + 1 + 1 + 1, 0, none⟩ (.int .i64 0) k (by show k ≠ w.heap.size + 1 + 1 + 1; omega)).trans (HAL.out.block k h2))
         have hw3 : Below w.heap.size w (w2.setCell ⟨w.heap.size + 1 + 1 + 1, 0, none⟩ (.int .i64 0)) := (HB0.out.trans (HB1.out.mono HB0.out.size)).setCell (p := ⟨w.heap.size + 1 + 1 + 1, 0, none⟩) (by show w.heap.size ≤ w.heap.size + 1 + 1 + 1; omega) _
         have hp3 : (w2.setCell ⟨w.heap.size + 1 + 1 + 1, 0, none⟩ (.int .i64 0)).cell? ⟨w.heap.size, 0, none⟩ = some (.int .i64 (gn : Int)) ∧ (w2.setCell ⟨w.heap.size + 1 + 1 + 1, 0, none⟩ (.int .i64 0)).cell? ⟨w.heap.size, 1, none⟩ = some (.slice Ar rels.length cr) := ⟨(cell_set (HBX.out _ HB1.out).1 _).trans (by simp), (cell_set (HBX.out _ HB1.out).2.1 _).trans (by simp)⟩
         have hs3 : (w2.setCell ⟨w.heap.size + 1 + 1 + 1, 0, none⟩ (.int .i64 0)).heap.size = w1.heap.size + 1 := by rw [← HZ2.out]; simp [World.setCell]
         generalize w2.setCell ⟨w.heap.size + 1 + 1 + 1, 0, none⟩ (.int .i64 0) = w3 at *
         have HBY : Hid (∀ W, Below w0.heap.size w3 W → W.cell? ⟨w.heap.size, 0, none⟩ = some (.int .i64 (gn : Int)) ∧ W.cell? ⟨w.heap.size, 1, none⟩ = some (.slice Ar rels.length cr) ∧ ResC (w.heap.size + 1) W (.slice none 0 0) 0 0 0 0 ∧ Tab W (.slice Ar rels.length cr) rels ∧ Tab W (.slice As sub.length cs) sub ∧ Below w.heap.size w W) := Lib.hid fun W h => by
           have h1 : Below w.heap.size w W := hw3.trans (h.mono HB0.out.size)
           exact ⟨(h.cell (p := ⟨w.heap.size, 0, none⟩) (by show w.heap.size < w0.heap.size; omega)).trans hp3.1, (h.cell (p := ⟨w.heap.size, 1, none⟩) (by show w.heap.size < w0.heap.size; omega)).trans hp3.2, HRC2.out.below (by omega) h, kept_tab.below HRR.out h1, kept_tab.below HSS.out h1, h1⟩
         have HCOS := Lib.hid hcos
         have HN3 := Lib.hid hn3
         have HS3 := Lib.hid hs3
         have HLOW := Lib.hid hlow
         obtain ⟨hc0', hc1', -⟩ := HBY.out w3 (Below.refl _ _)
         clear hcos hn3 hs3 hlow hw3 hp3 HC HN1 HN2 HRC2 HB1 HAL HZ2 hc0 hc1
         refine wpList_val rfl (r_load151 (.tmp 9) w1.heap.size _ _ _ _ _ _ _ _ rfl rfl HN3.out) ?_)
      | ((with_reducible refine wpList_sel 32 ?_); refine wpList_val rfl (r_build161 (.tmp 30) (.tmp 31) _ _ _ _ _ _ _ _ _ rfl rfl rfl) ?_))
    have hC0 : C0 = .int .i64 (((2 * gn : Nat) : Int)) ∧ C6 = .int .i64 (startF (2 * gn)).s.live ∧ C7 = .int .i64 (startF (2 * gn)).s.most := by
      obtain ⟨bl, css, P, vr, vp, vq, vk, e, -⟩ := HCOS.out
      unfold fcells at e
      injection e with e
      injection e with e0 e
      injection e with e1 e
      injection e with e2 e
      injection e with e3 e
      injection e with e4 e
      injection e with e5 e
      injection e with e6 e
      injection e with e7 e
      exact ⟨e0, e6, e7⟩
    obtain ⟨rfl, rfl, rfl⟩ := hC0
    obtain ⟨Bm, hBm⟩ : ∃ Bm, Bm = w3.heap.size := ⟨_, rfl⟩
    have hnm : (w3.alloc (.map #[] 0)).heap.size = w3.heap.size + 1 := by simp
    have hb4 : Below w3.heap.size w3 (w3.alloc (.map #[] 0)) := (Below.refl _ _).alloc (Nat.le_refl _) _
    have hWI : WrdI w3.heap.size (w3.heap.size + 1) (w3.heap.size + 2) 0 #[.int .i64 (((2 * gn : Nat) : Int)), C1, C2, C3, C4, C5, .int .i64 (startF (2 * gn)).s.live, .int .i64 (startF (2 * gn)).s.most, .map (some w3.heap.size)] (wsF rels) (fun _ => .slice none 0 0) w3 ((w3.alloc (.map #[] 0)).alloc (.cells #[.int .i64 (((2 * gn : Nat) : Int)), C1, C2, C3, C4, C5, .int .i64 (startF (2 * gn)).s.live, .int .i64 (startF (2 * gn)).s.most, .map (some w3.heap.size)] 161)) := by
      have hb5 : Below (w3.alloc (.map #[] 0)).heap.size (w3.alloc (.map #[] 0)) ((w3.alloc (.map #[] 0)).alloc (.cells #[.int .i64 (((2 * gn : Nat) : Int)), C1, C2, C3, C4, C5, .int .i64 (startF (2 * gn)).s.live, .int .i64 (startF (2 * gn)).s.most, .map (some w3.heap.size)] 161)) := (Below.refl _ _).alloc (Nat.le_refl _) _
      have hnw := heap_alloc_new (w3.alloc (.map #[] 0)) (.cells #[.int .i64 (((2 * gn : Nat) : Int)), C1, C2, C3, C4, C5, .int .i64 (startF (2 * gn)).s.live, .int .i64 (startF (2 * gn)).s.most, .map (some w3.heap.size)] 161)
      rw [hnm] at hnw
      exact ⟨hb4.trans (hb5.mono hb4.size), by simp, hnw, (MapL.made w3).keep (hb5.block _ (by rw [hnm]; omega)), fun j hj => absurd hj (Nat.not_lt_zero _)⟩
    generalize (w3.alloc (.map #[] 0)).alloc (.cells #[.int .i64 (((2 * gn : Nat) : Int)), C1, C2, C3, C4, C5, .int .i64 (startF (2 * gn)).s.live, .int .i64 (startF (2 * gn)).s.most, .map (some w3.heap.size)] 161) = w5 at *
    rw [← hBm] at hWI ⊢
    have HWI := Lib.hid hWI
    have HBM := Lib.hid hBm
    have HSZ3 : Hid (w0.heap.size < w3.heap.size) := Lib.hid (by have := HZ1.out; have := HS3.out; omega)
    have hlr100 : Hid (∀ j, (rels.getD j []).length ≤ 100) := Lib.hid hlr
    have HMR := Lib.hid (mild_rels hg16 HRG.out)
    have HWD : Hid (∀ c W, c ≤ 1000 → Tab W (.slice Ar rels.length cr) rels → Calls Try.prog 139 #[.agg #[.int .i64 (gn : Int), .slice Ar rels.length cr], .int .i64 (letter c)] W fun e w' => (∃ A k, e = .returned (.slice A (wsF rels c).length k) ∧ TabB W.heap.size w' (.slice A (wsF rels c).length k) (wsF rels c)) ∧ Below W.heap.size W w') := Lib.hid fun c W hc h => words139_any W _ rels gn (letter c) h (by have := letter_bd (c := c) (by omega); omega) (by have := letter_bd (c := c) (by omega); omega) HMR.out hlr100.out (by omega)
    clear hWI hBm hnm hb4 hlr HBD
    have e2g : ((2 * gn : Nat) : Int) = 2 * (gn : Int) := by omega
    have hgI : (gn : Int) ≤ 16 := by omega
    have hgI1 : (1 : Int) ≤ (gn : Int) := by omega
    generalize hm2 : 2 * gn = m at *
    have HM2 := Lib.hid hm2
    have hmI : (m : Int) ≤ 32 := by omega
    have hmI0 : (0 : Int) ≤ (m : Int) := by omega
    have hmN : m ≤ 32 := by omega
    clear hm2 e2g
    go_loopw [39] (fun i wr => ∃ (c : Nat) (fm : Int → Value), i = .int .i64 (c : Int) ∧ c ≤ m ∧ Hid (WrdI Bm (Bm + 1) (Bm + 2) c #[.int .i64 (m : Int), C1, C2, C3, C4, C5, .int .i64 (startF m).s.live, .int .i64 (startF m).s.most, .map (some Bm)] (wsF rels) fm w3 wr)) (fun i _ => m - (intOf i).toNat)
    case atStart => exact ⟨0, _, rfl, Nat.zero_le _, HWI⟩
    case round =>
      clear HWI
      obtain ⟨c, fm, rfl, hc, HWI⟩ := hrel
      have hc0 : (0 : Int) ≤ (c : Int) := Int.natCast_nonneg _
      by_cases hlt : c < m
      · have hcI : (c : Int) < (m : Int) := by omega
        have HB3W : Hid (Below w0.heap.size w3 wr) := Lib.hid (HWI.out.below.mono (by have := HBM.out; have := HSZ3.out; omega))
        have HLO3 : Hid (w0.heap.size ≤ wr.heap.size) := Lib.hid (by have := HWI.out.size; have := HBM.out; have := HSZ3.out; omega)
        go_wp2_with fail
        refine (wpIn_wide (n := 3)).1 ?_
        refine wpIn_region_all (by kernel_rfl) 11 rfl (fun i => if i < 10 then some (42 + i) else none) (lex_of (by kernel_rfl)) (fun ls W => (ls 10 = false → Below wr.heap.size wr W) ∧ (ls 10 = true → ∃ v, WrdI Bm (Bm + 1) (Bm + 2) (c + 1) #[.int .i64 (m : Int), C1, C2, C3, C4, C5, .int .i64 (startF m).s.live, .int .i64 (startF m).s.most, .map (some Bm)] (wsF rels) (fun x => if x = letter c then v else fm x) w3 W))
          (WdF (Bm + 1) Bm c (Bm + 2) (.agg #[.int .i64 (gn : Int), .slice Ar rels.length cr]) (wsF rels c)) (WdG (Bm + 2)) (dm_inj (by kernel_rfl)) WdF.keep (dm_lt (n := 132) (by kernel_rfl)) ⟨fun _ => (Below.refl _ _).drew, fun h => by cases h⟩ ?_ ?_
        · intro ls q o a w6 hq ho hS hls hcl hP hpre
          have hcases : q = 0 ∨ q = 1 ∨ q = 2 ∨ q = 3 ∨ q = 4 ∨ q = 5 ∨ q = 6 ∨ q = 7 ∨ q = 8 ∨ q = 9 ∨ q = 10 := by
            have : q < 11 := hq
            omega
          rcases hcases with rfl | rfl | rfl | rfl | rfl | rfl | rfl | rfl | rfl | rfl | rfl
          · obtain rfl := Option.some.inj ho
            exact wpOpIn_of rfl rfl (wpW_val (r_move (.tmp 10) rfl (hP.out 10 (dm_out (by kernel_rfl)))) ⟨_, rfl, hS, WdG.same, (fun h => by simp at h), rfl⟩)
          · obtain rfl := Option.some.inj ho
            exact wpOpIn_of rfl rfl (wpW_val (r_nil (.tmp 42) _ rfl (hpre ⟨0, .data⟩ (by simp) rfl).2) ⟨_, rfl, hS, WdG.same, (fun h => by simp at h), rfl⟩)
          · obtain rfl := Option.some.inj ho
            exact wpOpIn_of rfl rfl (wpW_val (r_fld (.tmp 43) _ rfl (hpre ⟨1, .data⟩ (by simp) rfl).2 (fld161_1 (Bm + 1) _)) ⟨_, rfl, hS, WdG.same, (fun h => by simp at h), rfl⟩)
          · obtain rfl := Option.some.inj ho
            have h10 := not_yet hcl 10 rfl ⟨3, .phase⟩ (by simp) rfl hls
            have hbx := (HWI.out.later (by omega) (hS.1 h10)).box
            have hcx : w6.cell? ⟨Bm + 1, 8, none⟩ = some (.map (some Bm)) := by rw [cell_of_row _ _ _ _ _ _ hbx]; rfl
            exact wpOpIn_of rfl rfl (wpW_val (r_load1 159 agg159 (.tmp 44) ⟨Bm + 1, 8, none⟩ rfl (hpre ⟨2, .data⟩ (by simp) rfl).2 hcx) ⟨_, rfl, hS, WdG.same, (fun h => by simp at h), rfl⟩)
          · obtain rfl := Option.some.inj ho
            exact wpOpIn_of rfl rfl (wpW_val (r_move (.tmp 11) rfl (hP.out 11 (dm_out (by kernel_rfl)))) ⟨_, rfl, hS, WdG.same, (fun h => by simp at h), rfl⟩)
          · obtain rfl := Option.some.inj ho
            exact wpOpIn_of rfl rfl (wpW_call (R := fun v w' => v = .int .i64 (letter c) ∧ w' = w6) (r_call1 (.tmp 46) _ _ rfl (hpre ⟨4, .data⟩ (by simp) rfl).2 call143) ((letter143_any w6 c (by omega)).mono fun e w' ⟨he, hb⟩ => ⟨_, he, rfl, hb.symm⟩)
              (fun v w'' ⟨hv, hw⟩ => ⟨v, rfl, by rw [hw]; exact ⟨fun h => hS.1 (by simpa using h), fun h => hS.2 (by simpa using h)⟩, by rw [hw]; exact WdG.same, (fun h => by simp at h), hv⟩))
          · obtain rfl := Option.some.inj ho
            have h10 := not_yet hcl 10 rfl ⟨6, .phase⟩ (by simp) rfl hls
            obtain ⟨p0, p1, -⟩ := HBY.out w6 (HB3W.out.trans ((hS.1 h10).mono HLO3.out))
            exact wpOpIn_of rfl rfl (wpW_val (r_loadAt 40 (.tmp 3) _ _ rfl (hP.out 3 (dm_out (by kernel_rfl))) (load40c p0 p1)) ⟨_, rfl, hS, WdG.same, (fun h => by simp at h), rfl⟩)
          · obtain rfl := Option.some.inj ho
            exact wpOpIn_of rfl rfl (wpW_val (r_move (.tmp 11) rfl (hP.out 11 (dm_out (by kernel_rfl)))) ⟨_, rfl, hS, WdG.same, (fun h => by simp at h), rfl⟩)
          · obtain rfl := Option.some.inj ho
            exact wpOpIn_of rfl rfl (wpW_call (R := fun v w' => v = .int .i64 (letter c) ∧ w' = w6) (r_call1 (.tmp 49) _ _ rfl (hpre ⟨7, .data⟩ (by simp) rfl).2 call143) ((letter143_any w6 c (by omega)).mono fun e w' ⟨he, hb⟩ => ⟨_, he, rfl, hb.symm⟩)
              (fun v w'' ⟨hv, hw⟩ => ⟨v, rfl, by rw [hw]; exact ⟨fun h => hS.1 (by simpa using h), fun h => hS.2 (by simpa using h)⟩, by rw [hw]; exact WdG.same, (fun h => by simp at h), hv⟩))
          · obtain rfl := Option.some.inj ho
            have h10 := not_yet hcl 10 rfl ⟨9, .data⟩ (by simp) rfl hls
            obtain ⟨-, -, -, p3, -⟩ := HBY.out w6 (HB3W.out.trans ((hS.1 h10).mono HLO3.out))
            have hs6 := (hS.1 h10).size
            exact wpOpIn_of rfl rfl (wpW_call (R := fun v w' => TabB w6.heap.size w' v (wsF rels c) ∧ Below w6.heap.size w6 w') (r_call2 (.tmp 48) (.tmp 50) _ _ _ rfl (hpre ⟨6, .data⟩ (by simp) rfl).2 (hpre ⟨8, .data⟩ (by simp) rfl).2 call139) ((HWD.out c w6 (by omega) p3).mono fun e w' ⟨⟨A, k, he, ht⟩, hb⟩ => ⟨_, he, ht, hb⟩)
              (fun v w'' ⟨ht, hb⟩ => ⟨v, rfl, ⟨fun h => (hS.1 h10).trans (hb.mono hs6), fun h => absurd (show ls 10 = true from h) (by rw [h10]; simp)⟩, WdG.of_below hb, (fun h => by simp at h), ht.low (Nat.le_trans HWI.out.size hs6)⟩))
          · obtain rfl := Option.some.inj ho
            have hI6 := HWI.out.later (by omega) (hS.1 hls)
            have ht9 : TabB (Bm + 2) w6 (slotv a (some 51)) (wsF rels c) := (hpre ⟨9, .data⟩ (by simp) rfl).2
            obtain ⟨w7, hr7, hI7, hz7, hk7⟩ := hI6.put (by omega) (by omega) (by omega) ht9
            exact wpOpIn_of rfl rfl (wpW_skip (r_mu 159 (.tmp 45) (.tmp 47) (.tmp 51) rfl (hpre ⟨3, .data⟩ (by simp) rfl).2 (hpre ⟨5, .data⟩ (by simp) rfl).2 rfl hr7) ⟨undef, rfl, ⟨fun h => by simp at h, fun _ => ⟨_, hI7⟩⟩, ⟨hz7, hk7⟩, fun _ => rfl, rfl⟩)
        · intro ls a w6 hall hS hP hsl
          obtain ⟨v, hI⟩ := hS.2 (hall 10 (by decide))
          obtain ⟨vs, hvs, hfr⟩ := hP.frame 132 rfl
          have HI := Lib.hid hI
          clear hsl hP hall hS hvs hI
          subst hfr
          dsimp only
          simp only [List.range, List.range.loop, List.map_cons, List.map_nil, List.any_cons, List.any_nil, Nat.reduceAdd, Nat.reduceBEq, Nat.reduceLT, Option.some_beq_some, Option.none_beq_some, Bool.or_false, Bool.false_or, Bool.false_eq_true, if_true, if_false, List.getD_cons_zero, List.getD_cons_succ]
          go_wp2_with fail
          go_roundw
          case rel => exact ⟨c + 1, _, by go_num, by omega, HI⟩
          case measure => simp [intOf]; omega
      · obtain rfl : m = c := by omega
        clear hlt hc
        have hbm := HBM.out
        have hsz3 := HSZ3.out
        obtain ⟨K, hKd⟩ : ∃ K : Nat → Prop, K = fun k => k = Bm ∨ (Bm + 2 ≤ k ∧ k < wr.heap.size) := ⟨_, rfl⟩
        have hwz := HWI.out.size
        have hst : StF K 161 [.map (some Bm)] w0.heap.size (Bm + 1) m lim wr (startF m) := HCOS.out.rebox (by rw [← hbm]; exact HWI.out.below) HWI.out.box (by omega) (fun k hk => by
          rw [hKd] at hk
          rcases hk with hk | hk <;> omega)
        have hmw : MapW K w0.heap.size wr [.map (some Bm)] m (wsF rels) fm Bm m := ⟨rfl, by rw [hKd]; exact .inl rfl, HWI.out.map, fun c hc W hW => HWI.out.tabs c hc W fun k h1 h2 => hW.2 k (by rw [hKd]; exact .inr ⟨h1, h2⟩)⟩
        have hb6 : Below w0.heap.size w3 wr := HWI.out.below.mono (by omega)
        have HST := Lib.hid hst
        have HMW := Lib.hid hmw
        have HB6 := Lib.hid hb6
        have HBW6 : Hid (w0.heap.size ≤ wr.heap.size) := Lib.hid (by omega)
        have HFN : Hid (Fine gn (startF m)) := Lib.hid (by rw [← HM2.out]; exact fine_start hg1 hg16)
        have HFG : Hid (FGood gn lim (startF m)) := Lib.hid (by rw [← HM2.out]; exact startF_good hl1)
        have HFS : Hid (felschS m lim rels sub = (optTo (subF m lim rels sub) sub.length (startF m)).bind (rndF m lim rels sub)) := Lib.hid rfl
        have HEF : Hid (felschS m lim rels sub = none → felschE gn rels sub lim = ([], (0, 0), 12)) := Lib.hid fun h => felschE_full HE.out (by rw [HM2.out]; exact h)
        have HES : Hid (∀ f, felschS m lim rels sub = some f → felschE gn rels sub lim = ((stdE gn (tabS f.s) 0).1, ((f.s.t.length : Int), f.s.most), 0)) := Lib.hid fun f h => felschE_some HE.out (by rw [HM2.out]; exact h)
        have HCF : Hid (∀ f, felschS m lim rels sub = some f → FGood gn lim f ∧ Coset gn rels sub (stdT (tabS f.s) 0) ∧ stdE gn (tabS f.s) 0 = (stdT (tabS f.s) 0, 0) ∧ (stdT (tabS f.s) 0).length = (liv f.s).length ∧ Comp gn f.s f.s.t.length) := Lib.hid fun f h => coset_of_felsch hg1 hg16 hl2 hl1 (fun j _ => HLO.out j) (fun j _ => HSO.out j) (by rw [HM2.out]; exact h)
        have HTY : Hid (TyF 161) := Lib.hid ⟨by decide, by decide, by decide⟩
        have HWL : Hid (∀ c j, ((wsF rels c).getD j []).length ≤ 1000000) := Lib.hid fun c j => Nat.le_trans (wsF_len hlr100.out c j) (by decide)
        have HWO : Hid (∀ c, ∀ j, j < (wsF rels c).length → LOk gn ((wsF rels c).getD j [])) := Lib.hid fun c => wsF_ok (fun j _ => HLO.out j) c
        have HDD : Hid (∀ W f, FRest gn f → Fine gn f → StF K 161 [.map (some Bm)] w0.heap.size (Bm + 1) m lim W f → Keeps w0.heap.size K wr W → Calls Try.prog 145 #[.pointer (some ⟨Bm + 1, 0, none⟩)] W fun e w' => e = .returned (.tuple #[]) ∧ StF K 161 [.map (some Bm)] w0.heap.size (Bm + 1) m lim w' (ded m (wsF rels) f) ∧ Keeps w0.heap.size K W w') := Lib.hid fun W f _ hF ⟨bl, cs, hs⟩ hK => by
          have hmw2 := hmw.keep hK
          exact (deduce145_any K 161 [.map (some Bm)] bl cs gn m w0.heap.size (Bm + 1) lim HM2.out.symm W f (wsF rels) fm Bm m HTY.out hF hs (Nat.le_trans HBW6.out hK.size) hmw2.ex0 hmw2.kb hmw2.map hmw2.at_ (fun c _ => HWO.out c) (fun c _ => HWL.out c)).mono fun e w' ⟨h1, h2, h3⟩ => ⟨h1, ⟨_, _, h2⟩, h3⟩
        rename World => w6
        clear hbm hsz3 hwz hst hmw hb6 HWD HWI HN3 HZ1 hKd hc0 hc0' hc1' hmm
        have hsb : (0 : Int) ≤ (sub.length : Int) := Int.natCast_nonneg _
        have hsb2 : (sub.length : Int) ≤ 100 := by omega
        generalize felschS m lim rels sub = F at *
        go_wp2_with fail
        go_loopw [55] (fun i wr => ∃ (k : Nat) (f : FS), i = .int .i64 (k : Int) ∧ k ≤ sub.length ∧ Hid (optTo (subF m lim rels sub) k (startF m) = some f ∧ Fine gn f ∧ FGood gn lim f ∧ StF K 161 [.map (some Bm)] w0.heap.size (Bm + 1) m lim wr f) ∧ Hid (Keeps w0.heap.size K w6 wr)) (fun i _ => sub.length - (intOf i).toNat)
        case atStart => exact ⟨0, startF m, rfl, Nat.zero_le _, Lib.hid ⟨rfl, HFN.out, HFG.out, HST.out⟩, Lib.hid (Keeps.refl _ _ _)⟩
        case round =>
          clear HST HFN HFG
          obtain ⟨k, f, rfl, hk, HI, HK⟩ := hrel
          have hk0 : (0 : Int) ≤ (k : Int) := Int.natCast_nonneg _
          have HB7 : Hid (Below w0.heap.size w3 wr) := Lib.hid (HB6.out.trans HK.out.1)
          by_cases hlt : k < sub.length
          · have hltI : (k : Int) < (sub.length : Int) := by omega
            obtain ⟨bs, os, rfl, hcell⟩ := HSS.out.cells (by omega)
            obtain ⟨u, hu0, hI0⟩ := hcell k hlt
            have HSB : Hid (∀ W, Below w0.heap.size w3 W → W.cell? ⟨bs, os + k, none⟩ = some u ∧ IntsAt W u (sub.getD k [])) := Lib.hid fun W hW => by
              have hw := (HBY.out _ hW).2.2.2.2.2
              exact ⟨(hw.cell (p := ⟨bs, os + k, none⟩) (World.block_lt_of_cell? w _ hu0)).trans hu0, kept_ints.below hI0 hw⟩
            have hck := (HSB.out _ HB7.out).1
            obtain ⟨hop, hF1, hG1, hS1⟩ := HI.out
            have HFI : Hid (Calls Try.prog 144 #[.pointer (some ⟨Bm + 1, 0, none⟩), u] wr fun e w' => ((∃ f', fillFS m lim f 0 (sub.getD k []) = some f' ∧ e = .returned (.tuple #[]) ∧ StF K 161 [.map (some Bm)] w0.heap.size (Bm + 1) m lim w' f' ∧ Fine gn f') ∨ (fillFS m lim f 0 (sub.getD k []) = none ∧ e = .panicked fullF)) ∧ Keeps w0.heap.size K wr w') := Lib.hid (fill144_any K 161 [.map (some Bm)] gn m w0.heap.size (Bm + 1) lim HM2.out.symm wr f u (sub.getD k []) HTY.out hF1 hG1 hS1 (Nat.le_trans HBW6.out HK.out.size) hlim2 hG1.good.n2 (fun W hW => (HSB.out W (HB7.out.trans hW.1)).2) (HSO.out k) (by have := hsm k; omega) hG1.good.n1 (Ct.rp_zero hG1.good.rest hG1.good.n1))
            have HOP : Hid (optTo (subF m lim rels sub) (k + 1) (startF m) = (fillFS m lim f 0 (sub.getD k [])).map (ded m (wsF rels))) := Lib.hid (by rw [optTo_succ, hop]; rfl)
            have HG1 := Lib.hid hG1
            obtain ⟨Au, cu, rfl, -, -, -⟩ := hI0.open_
            clear hcell hop hF1 hG1 hS1 hu0 hI0
            cases hfs : fillFS m lim f 0 (sub.getD k []) with
            | none =>
              have HEN : Hid (felschE gn rels sub lim = ([], (0, 0), 12)) := Lib.hid (HEF.out (by
                rw [HFS.out, optTo_none (by rw [HOP.out, hfs]; rfl) sub.length (by omega)]; rfl))
              rw [hfs] at HFI
              clear hfs
              generalize (sub.getD k []).length = lu at *
              have hfp : Calls Try.prog 144 #[.pointer (some ⟨Bm + 1, 0, none⟩), .slice Au lu cu] wr fun e w' => e = .panicked fullF ∧ Keeps w0.heap.size K wr w' := HFI.out.mono fun e w' h => by
                obtain ⟨h, hb⟩ := h
                rcases h with ⟨f', h, -⟩ | ⟨-, h⟩
                · cases h
                · exact ⟨h, hb⟩
              have HFP := Lib.hid hfp
              clear hfp HFI
              go_wp2_with (go_at_call 144; (with_reducible refine HFP.out.mono ?_); rintro e w8 ⟨rfl, hk8⟩; have HB8 := Lib.hid (HB7.out.trans hk8.1); clear hk8)
              obtain ⟨-, -, hrc8, -, -, hbw8⟩ := HBY.out _ HB8.out
              refine leaves_cons (f := 142) (args := #[.pointer (some ⟨w.heap.size + 1, 0, none⟩), .pointer (some ⟨w.heap.size + 1 + 1, 0, none⟩), .pointer (some ⟨w.heap.size + 1 + 1 + 1, 0, none⟩)]) (by simp) (by simp [go_sem]) ?_
              refine (ended_full (w.heap.size + 1) w.heap.size w8 _ _ _ _ _ (by omega) hrc8).mono ?_
              rintro e u' w9 ⟨rfl, rfl, hrc9, hb9⟩
              exact leave85 hrc9 _ rfl rfl rfl (FelschPost.err HEN.out (hbw8.trans hb9))
            | some f' =>
              have HOP2 : Hid (optTo (subF m lim rels sub) (k + 1) (startF m) = some (ded m (wsF rels) f')) := Lib.hid (by rw [HOP.out, hfs]; rfl)
              have hsn : Fine gn f' → FGood gn lim f' ∧ FGood gn lim (ded m (wsF rels) f') ∧ Fine gn (ded m (wsF rels) f') := fun hF => sub_next HM2.out.symm HLO.out (HSO.out k) HG1.out hfs hF
              have HSN := Lib.hid hsn
              rw [hfs] at HFI
              have hfp : Calls Try.prog 144 #[.pointer (some ⟨Bm + 1, 0, none⟩), .slice Au (sub.getD k []).length cu] wr fun e w' => e = .returned (.tuple #[]) ∧ StF K 161 [.map (some Bm)] w0.heap.size (Bm + 1) m lim w' f' ∧ Fine gn f' ∧ Keeps w0.heap.size K wr w' := HFI.out.mono fun e w' h => by
                obtain ⟨h, hb⟩ := h
                rcases h with ⟨f2, h1, h2, h3, h4⟩ | ⟨h, -⟩
                · cases h1; exact ⟨h2, h3, h4, hb⟩
                · cases h
              have HFP := Lib.hid hfp
              clear hfp HFI hfs hsn
              generalize (sub.getD k []).length = lu at *
              go_wp2_with (first
                | (go_at_call 144; (with_reducible refine HFP.out.mono ?_); rintro e w8 ⟨rfl, hs8, hF8, hk8⟩
                   have HK8 := Lib.hid (HK.out.trans hk8)
                   obtain ⟨hg1', hg2', hf2'⟩ := HSN.out hF8
                   have HG2 := Lib.hid hg2'
                   have HF2 := Lib.hid hf2'
                   have HD8 := Lib.hid (HDD.out w8 f' hg1'.rest hF8 hs8 HK8.out)
                   clear hs8 hF8 hk8 hg1' hg2' hf2')
                | (go_at_call 145; (with_reducible refine HD8.out.mono ?_); rintro e w9 ⟨rfl, hs9, hk9⟩
                   have HS9 := Lib.hid hs9
                   have HK9 := Lib.hid (HK8.out.trans hk9)
                   clear hs9 hk9))
              go_roundw
              case rel => exact ⟨k + 1, _, by go_num, by omega, Lib.hid ⟨HOP2.out, HF2.out, HG2.out, HS9.out⟩, HK9⟩
              case measure => simp [intOf]; omega
          · obtain rfl : k = sub.length := by omega
            clear hlt hk
            go_wp2_with fail
            have HFR0 : Hid (F = rndF m lim rels sub f) := Lib.hid (by rw [HFS.out, HI.out.1]; rfl)
            have hlv0 := live_nonneg HI.out.2.2.1.good.rest
            have hlv1 := live_le_n HI.out.2.2.1.good.rest
            have hln := HI.out.2.2.1.good.n2
            have HNE : Hid ((-1 : Int) ≠ f.s.live) := Lib.hid (by omega)
            have HI0 : Hid (Fine gn f ∧ FGood gn lim f ∧ StF K 161 [.map (some Bm)] w0.heap.size (Bm + 1) m lim wr f) := Lib.hid HI.out.2
            have HK0 := HK
            clear hlv0 hlv1 hln
            go_loopg [14] (rpot lim f + 1) (fun n l wx => ∃ (f1 : FS) (z : Int) (gq : Nat), l = .int .i64 z ∧ n = gq ∧ Hid ((z ≠ f1.s.live ∧ F = rndF m lim rels sub f1 ∧ gq = rpot lim f1 + 1) ∨ (z = f1.s.live ∧ F = some f1 ∧ gq = 0)) ∧ Hid (Fine gn f1 ∧ FGood gn lim f1 ∧ StF K 161 [.map (some Bm)] w0.heap.size (Bm + 1) m lim wx f1) ∧ Hid (Keeps w0.heap.size K w6 wx))
            case atStart => exact ⟨f, -1, _, rfl, rfl, Lib.hid (.inl ⟨HNE.out, HFR0.out, rfl⟩), HI0, HK0⟩
            case round =>
              clear HI HK HB7 HFR0 HNE HI0 HK0
              obtain ⟨f1, z, gq, rfl, hgq, HZ, HI, HK⟩ := hrel
              have HGQ := Lib.hid hgq
              clear hgq
              have HB7 : Hid (Below w0.heap.size w3 wr) := Lib.hid (HB6.out.trans HK.out.1)
              have hc6 := HI.out.2.2.live.1
              by_cases hz : z = f1.s.live
              · have d1 : (z != f1.s.live) = false := by rw [hz]; simp
                have HFE : Hid (F = some f1) := Lib.hid (by
                  rcases HZ.out with h | h
                  · exact absurd hz h.1
                  · exact h.2.1)
                have HEN := Lib.hid (HES.out f1 HFE.out)
                obtain ⟨hg, -, hstd, -, hcomp⟩ := HCF.out f1 HFE.out
                have hts := (tab_std hg1 hg16 hl2 hg.good hcomp).1
                have HTG := Lib.hid hts
                have HTS := Lib.hid hstd
                obtain ⟨A9, c9, hr9⟩ := HI.out.2.2.rows2
                obtain ⟨bl, cs', hsb1⟩ := HI.out.2.2.open_
                have HSQ : Hid (Calls Try.prog 148 #[.pointer (some ⟨Bm + 1, 0, none⟩)] wr fun e w' => ∃ A c B, e = .returned (.tuple #[B, .slice A (tabS f1.s).length c]) ∧ Tab w' (.slice A (tabS f1.s).length c) (tabS f1.s) ∧ w'.cell? ⟨Bm + 1, 7, none⟩ = some (.int .i64 f1.s.most) ∧ Below w0.heap.size wr w') := Lib.hid ((squeeze148_any K 161 [.map (some Bm)] bl cs' gn m w0.heap.size (Bm + 1) lim HM2.out.symm hg1 hg16 wr f1 hg.good.rest hsb1 (Nat.le_trans HBW6.out HK.out.size) (by have := hg.good.n2; omega) hg.good.n1).mono fun e w' h => h.done HTY.out hg.good.rest (by have := hg.good.n2; omega) hcomp hsb1)
                have H48 : Hid (∀ W u, Tab W u (tabS f1.s) → Calls Try.prog 56 #[.int .i64 (gn : Int), u, .int .i64 0] W fun e w' => (∃ u, e = .returned (.tuple #[u, .int .i64 0]) ∧ TabB W.heap.size w' u (stdE gn (tabS f1.s) 0).1) ∧ Below W.heap.size W w') := Lib.hid fun W u h => (std48_goodB W u gn (tabS f1.s) 0 h HTG.out (Int.le_refl _) (by have := HTG.out.n1; omega)).mono fun e w' ⟨⟨u, h1, h2⟩, h3⟩ => ⟨⟨u, by rw [h1, HTS.out], h2⟩, h3⟩
                have HLT : Hid (w0.heap.size ≤ wr.heap.size) := Lib.hid (Nat.le_trans HBW6.out HK.out.size)
                clear hg hstd hcomp hts hsb1 HZ HI hz
                generalize (stdE gn (tabS f1.s) 0).1 = T0 at *
                generalize (tabS f1.s).length = nt at *
                generalize hfl : f1.s.t.length = nf at *
                clear hfl
                generalize f1.s.most = mo at *
                go_wp2_with (first
                  | (go_at_call 148; (with_reducible refine HSQ.out.mono ?_); rintro e w10 ⟨A10, c10, B10, rfl, ht10, hm10, hb10⟩
                     have hb10' : Below w0.heap.size w3 w10 := HB7.out.trans hb10
                     have HB10 := Lib.hid hb10'
                     have HT10 := Lib.hid ht10
                     have HM10 := Lib.hid hm10
                     obtain ⟨hp0, hp1, -⟩ := HBY.out _ hb10'
                     have HL10 := Lib.hid (Nat.le_trans HLT.out hb10.size)
                     clear hb10 hb10' ht10 hm10)
                  | (go_at_call 56; (with_reducible refine (H48.out w10 _ HT10.out).mono ?_); rintro e w11 ⟨⟨u11, rfl, ht11⟩, hb11⟩
                     have hb11' : Below w0.heap.size w3 w11 := HB10.out.trans (hb11.mono HL10.out)
                     obtain ⟨-, -, hrc11, -, -, hbw11⟩ := HBY.out _ hb11'
                     have HM11 := Lib.hid ((hb11.cell (p := ⟨Bm + 1, 7, none⟩) (World.block_lt_of_cell? w10 _ HM10.out)).trans HM10.out)
                     have HRC11 := Lib.hid hrc11
                     have HBW11 := Lib.hid hbw11
                     have HT11 := Lib.hid (ht11.low HL10.out)
                     have HL11 := Lib.hid (Nat.le_trans HL10.out hb11.size)
                     obtain ⟨c0, c1, c2, c3, c4, f0, f1', f2', f3, f4⟩ := hrc11
                     obtain ⟨A5, n5, rfl⟩ := Tab.form ht11.at_
                     clear hb11 hb11' hbw11 ht11))
                have hq4 : w.heap.size + 1 + 1 + 1 < w0.heap.size := HLOW.out
                have HT12 := Lib.hid ((HT11.out.setCell (p := ⟨w.heap.size + 1, 0, none⟩) (by show w.heap.size + 1 < w0.heap.size; omega) (.slice A5 T0.length n5)).setCell (p := ⟨w.heap.size + 1 + 1 + 1, 0, none⟩) hq4 (.int .i64 0))
                have hrc12 := HRC11.out.set2 (.slice A5 T0.length n5) 0
                have HW12 : Hid (Below w.heap.size w ((w11.setCell ⟨w.heap.size + 1, 0, none⟩ (.slice A5 T0.length n5)).setCell ⟨w.heap.size + 1 + 1 + 1, 0, none⟩ (.int .i64 0))) := Lib.hid ((HBW11.out.setCell (p := ⟨w.heap.size + 1, 0, none⟩) (by show w.heap.size ≤ w.heap.size + 1; omega) _).setCell (p := ⟨w.heap.size + 1 + 1 + 1, 0, none⟩) (by show w.heap.size ≤ w.heap.size + 1 + 1 + 1; omega) _)
                have s7 : ((w11.setCell ⟨w.heap.size + 1, 0, none⟩ (.slice A5 T0.length n5)).setCell ⟨w.heap.size + 1 + 1 + 1, 0, none⟩ (.int .i64 0)).cell? ⟨Bm + 1, 7, none⟩ = some (.int .i64 mo) := by
                  rw [World.cell?_setCell_other _ _ _ _ (addr_ne (.inr (by simp))), World.cell?_setCell_other _ _ _ _ (addr_ne (.inr (by simp)))]; exact HM11.out
                generalize (w11.setCell ⟨w.heap.size + 1, 0, none⟩ (.slice A5 T0.length n5)).setCell ⟨w.heap.size + 1 + 1 + 1, 0, none⟩ (.int .i64 0) = W12 at *
                have HRC12 := Lib.hid hrc12
                have HRC13 := Lib.hid (hrc12.set (.slice A5 T0.length n5) nf mo 0 0)
                clear c0 c1 c2 c3 c4 f0 f1' f2' f3 f4
                obtain ⟨c0, c1, c2, c3, c4, f0, f1', f2', f3, f4⟩ := hrc12
                have hl0 : (0 : Int) ≤ (nf : Int) := Int.natCast_nonneg _
                have HNQ : Hid (w.heap.size + 1 + 1 ≠ Bm + 1) := Lib.hid (by
                  have h1 := HBM.out
                  have h2 := HSZ3.out
                  omega)
                have HS0 : Hid (S31 (w.heap.size + 1) (Bm + 1) (.slice A5 T0.length n5) (.int .i64 mo) W12) := Lib.hid ⟨c0, s7, c4⟩
                clear hr9 hc6
                generalize hQ : w.heap.size = Q at *
                have HQ := Lib.hid hQ
                clear hQ
                go_wp2_with fail
                go_region_held3 (fun w' => w'.cell? ⟨Q + 1, 0, none⟩ = some (.slice A5 T0.length n5) ∧ w'.cell? ⟨Bm + 1, 7, none⟩ = some (.int .i64 mo) ∧ w'.cell? ⟨Q + 1 + 1 + 1, 0, none⟩ = some (.int .i64 0))
                  (first | with_reducible exact HS0.out.drew | with_reducible exact HS0.out.st0.drew | with_reducible exact (HS0.out.st0.st1 _ _ HNQ.out _).drew | with_reducible exact (HS0.out.st0.st1 _ _ HNQ.out _).st2.drew)
                  (fail)
                go_wp2_with fail
                refine leaves_cons (f := 142) (args := #[.pointer (some ⟨Q + 1, 0, none⟩), .pointer (some ⟨Q + 1 + 1, 0, none⟩), .pointer (some ⟨Q + 1 + 1 + 1, 0, none⟩)]) (by simp) (by simp [go_sem]) ?_
                refine (ended_idle _ _ _ _).mono ?_
                rintro e u' w14 ⟨rfl, rfl, hb14⟩
                have hb13 : Below (setR (Q + 1) W12 (.slice A5 T0.length n5) nf mo 0 0).heap.size (setR (Q + 1) W12 (.slice A5 T0.length n5) nf mo 0 0) w14 := (Below.refl _ _).drew.trans hb14
                have hrc14 : ResC (Q + 1) w14 (.slice A5 T0.length n5) nf mo 0 0 := HRC13.out.below HRC13.out.lt hb13
                refine leave85 hrc14 _ rfl rfl rfl ?_
                unfold FelschPost
                rw [HEN.out]
                have hT13 := setR_tabB HT12.out (q := Q + 1) (by omega) hq4 (.slice A5 T0.length n5) nf mo 0 0
                have hb0z := HB0.out.size
                refine ⟨⟨_, rfl, (hT13.belowB hb13).low hb0z⟩, ?_⟩
                have hb7 := setR_below HW12.out (q := Q + 1) (by omega) (.slice A5 T0.length n5) nf mo 0 0
                rw [HQ.out]
                exact hb7.trans (hb13.mono (by have := hb7.size; have := HQ.out; omega))
              · have d1 : (z != f1.s.live) = true := by simpa using hz
                have HFE : Hid (F = rndF m lim rels sub f1 ∧ gq = rpot lim f1 + 1) := Lib.hid (by
                  rcases HZ.out with h | h
                  · exact h.2
                  · exact absurd h.1 hz)
                have hrd := round_m (sub := sub) HM2.out.symm HLO.out HSO.out HI.out.2.1
                have HRD := Lib.hid hrd.1
                have HRN : Hid (compF m lim (wsF rels) (ded m (wsF rels) f1) = none → felschE gn rels sub lim = ([], (0, 0), 12)) := Lib.hid fun h => HEF.out (HFE.out.1.trans (hrd.2.1 h))
                have HRS := Lib.hid hrd.2.2
                have HFD : Hid (Fine gn (ded m (wsF rels) f1)) := Lib.hid (HI.out.1.ext HRD.out.2.1)
                have HDa := Lib.hid (HDD.out wr f1 HI.out.2.1.rest HI.out.1 HI.out.2.2 HK.out)
                have HCP : Hid (∀ W, StF K 161 [.map (some Bm)] w0.heap.size (Bm + 1) m lim W (ded m (wsF rels) f1) → Keeps w0.heap.size K w6 W → Calls Try.prog 146 #[.pointer (some ⟨Bm + 1, 0, none⟩)] W fun e w' => ((∃ f', compF m lim (wsF rels) (ded m (wsF rels) f1) = some f' ∧ e = .returned (.tuple #[]) ∧ StF K 161 [.map (some Bm)] w0.heap.size (Bm + 1) m lim w' f' ∧ Fine gn f') ∨ (compF m lim (wsF rels) (ded m (wsF rels) f1) = none ∧ e = .panicked fullF)) ∧ Keeps w0.heap.size K W w') := Lib.hid fun W hs hk => complete146_any K 161 [.map (some Bm)] gn m w0.heap.size (Bm + 1) lim HM2.out.symm W (ded m (wsF rels) f1) (wsF rels) fm Bm m HTY.out HFD.out HRD.out.1 HRD.out.2.2 hs (Nat.le_trans HBW6.out hk.size) hlim2 (HMW.out.keep hk) (fun c _ => HWO.out c) (fun c _ => HWL.out c)
                clear hrd HZ HI
                cases hcf : compF m lim (wsF rels) (ded m (wsF rels) f1) with
                | none =>
                  have HEN := Lib.hid (HRN.out hcf)
                  have hfp : ∀ W, StF K 161 [.map (some Bm)] w0.heap.size (Bm + 1) m lim W (ded m (wsF rels) f1) → Keeps w0.heap.size K w6 W → Calls Try.prog 146 #[.pointer (some ⟨Bm + 1, 0, none⟩)] W fun e w' => e = .panicked fullF ∧ Keeps w0.heap.size K W w' := fun W hs hk => (HCP.out W hs hk).mono fun e w' h => by
                    obtain ⟨h, hb⟩ := h
                    rcases h with ⟨f', h, -⟩ | ⟨-, h⟩
                    · rw [hcf] at h; cases h
                    · exact ⟨h, hb⟩
                  have HFP := Lib.hid hfp
                  clear hfp HCP hcf
                  go_wp2_with (first
                    | (go_at_call 145; (with_reducible refine HDa.out.mono ?_); rintro e w8 ⟨rfl, hs8, hk8⟩
                       have HK8 := Lib.hid (HK.out.trans hk8)
                       have HFQ := Lib.hid (HFP.out w8 hs8 HK8.out)
                       clear hs8 hk8)
                    | (go_at_call 146; (with_reducible refine HFQ.out.mono ?_); rintro e w9 ⟨rfl, hk9⟩
                       have HB9 := Lib.hid (HB6.out.trans (HK8.out.trans hk9).1)
                       clear hk9))
                  obtain ⟨-, -, hrc8, -, -, hbw8⟩ := HBY.out _ HB9.out
                  refine leaves_cons (f := 142) (args := #[.pointer (some ⟨w.heap.size + 1, 0, none⟩), .pointer (some ⟨w.heap.size + 1 + 1, 0, none⟩), .pointer (some ⟨w.heap.size + 1 + 1 + 1, 0, none⟩)]) (by simp) (by simp [go_sem]) ?_
                  refine (ended_full (w.heap.size + 1) w.heap.size w9 _ _ _ _ _ (by omega) hrc8).mono ?_
                  rintro e u' w10 ⟨rfl, rfl, hrc9, hb9⟩
                  exact leave85 hrc9 _ rfl rfl rfl (FelschPost.err HEN.out (hbw8.trans hb9))
                | some f2 =>
                  obtain ⟨hG2, hct, hcF, hr1, hr2⟩ := HRS.out f2 hcf
                  have HG2 := Lib.hid hG2
                  have HCT := Lib.hid hct
                  have HCX := Lib.hid hcF
                  have HRA := Lib.hid hr1
                  have HRB := Lib.hid hr2
                  have hfp : ∀ W, StF K 161 [.map (some Bm)] w0.heap.size (Bm + 1) m lim W (ded m (wsF rels) f1) → Keeps w0.heap.size K w6 W → Calls Try.prog 146 #[.pointer (some ⟨Bm + 1, 0, none⟩)] W fun e w' => e = .returned (.tuple #[]) ∧ StF K 161 [.map (some Bm)] w0.heap.size (Bm + 1) m lim w' f2 ∧ Fine gn f2 ∧ Keeps w0.heap.size K W w' := fun W hs hk => (HCP.out W hs hk).mono fun e w' h => by
                    obtain ⟨h, hb⟩ := h
                    rcases h with ⟨f', h1, h2, h3, h4⟩ | ⟨h, -⟩
                    · rw [hcf] at h1; cases h1; exact ⟨h2, h3, h4, hb⟩
                    · rw [hcf] at h; cases h
                  have HFP := Lib.hid hfp
                  have hn2l := hG2.good.n2
                  have hn21 := hG2.good.n1
                  obtain ⟨n2, hn2⟩ : ∃ n2, n2 = f2.s.t.length := ⟨_, rfl⟩
                  have HN2 := Lib.hid hn2
                  have hn20 : (0 : Int) ≤ (n2 : Int) := Int.natCast_nonneg _
                  have hn2I : (n2 : Int) ≤ 1000 := by omega
                  clear hfp HCP hcf hG2 hct hcF hr1 hr2 hn2l hn21
                  go_wp2_with (first
                    | (go_at_call 145; (with_reducible refine HDa.out.mono ?_); rintro e w8 ⟨rfl, hs8, hk8⟩
                       have HK8 := Lib.hid (HK.out.trans hk8)
                       have HFQ := Lib.hid (HFP.out w8 hs8 HK8.out)
                       clear hs8 hk8)
                    | (go_at_call 146; (with_reducible refine HFQ.out.mono ?_); rintro e w9 ⟨rfl, hs9, hF9, hk9⟩
                       have hl9 := hs9.live.1
                       obtain ⟨A9, c9, hr9⟩ := hs9.rows2
                       rw [← hn2] at hr9
                       have HS9 := Lib.hid hs9
                       have HF9 := Lib.hid hF9
                       have HK9 := Lib.hid (HK8.out.trans hk9)
                       clear hs9 hF9 hk9 hn2))
                  go_loopw [87] (fun i wx => ∃ r : Nat, i = .int .i64 (r : Int) ∧ r ≤ n2 ∧ Hid (StF K 161 [.map (some Bm)] w0.heap.size (Bm + 1) m lim wx (chkTo m rels r f2)) ∧ Hid (Keeps w0.heap.size K w6 wx)) (fun i _ => n2 - (intOf i).toNat)
                  case atStart => exact ⟨0, rfl, Nat.zero_le _, HS9, HK9⟩
                  case round =>
                    clear hr9 hl9 HS9 HK9 HK HB7 hc6
                    obtain ⟨r, rfl, hr, HS, HK⟩ := hrel
                    have hr0 : (0 : Int) ≤ (r : Int) := Int.natCast_nonneg _
                    have HB7 : Hid (Below w0.heap.size w3 wr) := Lib.hid (HB6.out.trans HK.out.1)
                    have HFX := Lib.hid (HF9.out.ext (HCT.out r (by have := HN2.out; omega)))
                    obtain ⟨hp0, hp1, -⟩ := HBY.out _ HB7.out
                    by_cases hlt : r < n2
                    · have hrI : (r : Int) < (n2 : Int) := by omega
                      have HSC : Hid (∀ W, Below wr.heap.size wr W → Calls Try.prog 147 #[.pointer (some ⟨Bm + 1, 0, none⟩), .int .i64 (r : Int), .slice Ar rels.length cr] W fun e w' => e = .returned (.tuple #[]) ∧ StF K 161 [.map (some Bm)] w0.heap.size (Bm + 1) m lim w' (chkTo m rels (r + 1) f2) ∧ Keeps w0.heap.size K w6 w') := Lib.hid fun W hW => by
                        obtain ⟨bl, cs', hs⟩ := HS.out.below hW
                        have hkw : Keeps w0.heap.size K w6 W := HK.out.trans (Keeps.all hW (Nat.le_trans HBW6.out HK.out.size) HS.out.open_.choose_spec.choose_spec.lt)
                        exact (scans147_any K 161 [.map (some Bm)] bl cs' gn m w0.heap.size (Bm + 1) lim r HM2.out.symm W (chkTo m rels r f2) (.slice Ar rels.length cr) rels HTY.out HFX.out hs (Nat.le_trans HBW6.out hkw.size) (fun W' hW' => (HBY.out W' (HB6.out.trans (hkw.trans hW').1)).2.2.2.1) (fun j _ => HLO.out j) (fun j => Nat.le_trans (hlr100.out j) (by decide)) (by rw [(HCT.out r (by have := HN2.out; omega)).n]; have := HN2.out; omega)).mono fun e w' ⟨h1, h2, h3⟩ => ⟨h1, ⟨_, _, h2⟩, hkw.trans h3⟩
                      clear HB7
                      go_wp2_with fail
                      go_still_tail 6, (by kernel_rfl)
                      go_wp2_with (go_at_call 147; (with_reducible refine (HSC.out _ (Below.refl _ _).drew).mono ?_); rintro e w10 ⟨rfl, hs10, hk10⟩; have HS10 := Lib.hid hs10; have HK10 := Lib.hid hk10; clear hs10 hk10)
                      go_roundw
                      case rel => exact ⟨r + 1, by go_num, by omega, HS10, HK10⟩
                      case measure => simp [intOf]; omega
                    · obtain rfl : n2 = r := by omega
                      have HSC : Hid (Calls Try.prog 147 #[.pointer (some ⟨Bm + 1, 0, none⟩), .int .i64 0, .slice As sub.length cs] wr fun e w' => e = .returned (.tuple #[]) ∧ StF K 161 [.map (some Bm)] w0.heap.size (Bm + 1) m lim w' (chkF m rels sub f2) ∧ Keeps w0.heap.size K w6 w') := Lib.hid (by
                        obtain ⟨bl, cs', hs⟩ := HS.out
                        have e : chkF m rels sub f2 = scansF m (chkTo m rels n2 f2) 0 sub := by unfold chkF; rw [HN2.out]
                        rw [e]
                        exact (scans147_any K 161 [.map (some Bm)] bl cs' gn m w0.heap.size (Bm + 1) lim 0 HM2.out.symm wr (chkTo m rels n2 f2) (.slice As sub.length cs) sub HTY.out HFX.out hs (Nat.le_trans HBW6.out HK.out.size) (fun W' hW' => (HBY.out W' (HB6.out.trans (HK.out.trans hW').1)).2.2.2.2.1) (fun j _ => HSO.out j) (fun j => Nat.le_trans (hsm j) (by decide)) (by rw [(HCT.out n2 (by have := HN2.out; omega)).n]; exact HG2.out.good.n1)).mono fun e w' ⟨h1, h2, h3⟩ => ⟨h1, ⟨_, _, h2⟩, HK.out.trans h3⟩)
                      have HGX := Lib.hid (HG2.out.ext HCX.out)
                      have HFX2 := Lib.hid (HF9.out.ext HCX.out)
                      clear HB7
                      by_cases hll : (chkF m rels sub f2).s.live = f2.s.live
                      · have HRX := Lib.hid (HRA.out hll)
                        have HLL := Lib.hid hll
                        clear hll
                        go_wp2_with (go_at_call 147; (with_reducible refine HSC.out.mono ?_); rintro e w10 ⟨rfl, hs10, hk10⟩; have HS10 := Lib.hid hs10; have HK10 := Lib.hid hk10; clear hs10 hk10)
                        go_roundg 0
                        case measure => have := HGQ.out; have := HFE.out.2; omega
                        case rel => exact ⟨chkF m rels sub f2, f2.s.live, 0, rfl, rfl, Lib.hid (.inr ⟨HLL.out.symm, HFE.out.1.trans HRX.out, rfl⟩), Lib.hid ⟨HFX2.out, HGX.out, HS10.out⟩, HK10⟩
                      · have HRX := Lib.hid (HRB.out hll)
                        have HLL := Lib.hid hll
                        clear hll
                        go_wp2_with (go_at_call 147; (with_reducible refine HSC.out.mono ?_); rintro e w10 ⟨rfl, hs10, hk10⟩; have HS10 := Lib.hid hs10; have HK10 := Lib.hid hk10; clear hs10 hk10)
                        go_roundg (rpot lim (chkF m rels sub f2) + 1)
                        case measure => have := HGQ.out; have := HFE.out.2; have := HRX.out.2; omega
                        case rel => exact ⟨chkF m rels sub f2, f2.s.live, _, rfl, rfl, Lib.hid (.inl ⟨fun h => HLL.out h.symm, HFE.out.1.trans HRX.out.1, rfl⟩), Lib.hid ⟨HFX2.out, HGX.out, HS10.out⟩, HK10⟩
  · have HEN := Lib.hid (felschE_bad he)
    have HBD : Hid (Calls Try.prog 141 #[.agg #[.int .i64 g, .slice Ar rels.length cr], .slice As sub.length cs, .int .i64 limit] w0 fun e w' => e = .returned (.tuple #[.agg zero151, .int .i64 (givenE g rels sub limit)]) ∧ Below w0.heap.size w0 w') := Lib.hid ((HBG.out w0 HT0.out HS0.out).mono fun e w' ⟨h, hb⟩ => ⟨by
      rcases h with ⟨-, h⟩ | ⟨h, -⟩
      · exact h
      · exact absurd h he, hb⟩)
    have d1 : (givenE g rels sub limit != 0) = true := by simpa using he
    clear he HBG
    generalize givenE g rels sub limit = x at *
    go_wp2_with (first
      | (go_at_call 141; (with_reducible refine HBD.out.mono ?_); rintro e w1 ⟨rfl, hb⟩
         have hal : Below w1.heap.size w1 (w1.alloc (.cells zero151 151)) := (Below.refl _ _).alloc (Nat.le_refl _) _
         have hb1 : Below w0.heap.size w0 (w1.alloc (.cells zero151 151)) := hb.trans (hal.mono hb.size)
         have HN1 := Lib.hid (heap_alloc_new w1 (.cells zero151 151))
         have hrc := (HBX.out _ hb1).2.2
         have HRC2 := Lib.hid ((hrc.setE x).set (.slice none 0 0) 0 0 0 x)
         have HB1 := Lib.hid hb1
         obtain ⟨c0, c1, c2, c3, c4, f0, f1, f2, f3, f4⟩ := hrc
         clear hb hal hb1)
      | ((with_reducible refine wpList_sel 9 ?_); refine wpList_val rfl (r_alloc151 rfl) ?_; refine wpList_skip rfl (r_store151 (.tmp 9) (.tmp 24) rfl w1.heap.size zero151 zero151 rfl rfl HN1.out rfl rfl zero151_one) ?_; rw [World.setRow_alloc_new]; generalize w1.alloc (.cells zero151 151) = w2 at *))
    refine leave85 (q := w.heap.size + 1) HRC2.out _ rfl rfl rfl ?_
    exact FelschPost.err HEN.out (setR_below ((HB0.out.trans (HB1.out.mono HB0.out.size)).setCell (p := ⟨w.heap.size + 1 + 1 + 1, 0, none⟩) (by show w.heap.size ≤ w.heap.size + 1 + 1 + 1; omega) _) (by omega) _ _ _ _ _)
end Go.Proofs
