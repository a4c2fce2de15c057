/- (system).rewrite; rewrite.Rewrite; Presentations: which are valid, plainly; the letters of a word; pres.Check; Columns of letters; where a word leads; fine; Complete; slices.ContainsFunc at lists of lists; coset.Complete. -/
import Derived.Test.YtmpnengjboabcaaTpCS9
import Derived.Test.YtmpnengjboabcaaTpCS6
import Derived.Test.YtmpnengjboabcaaTpCS1
import Derived.Test.YtmpnengjboabcaaTpCS7
namespace Go.Proofs
open Go.RowKit Go.Shelf Go.Proofs.Ct Go.Maps
attribute [local simp, local go_sem] wide_fn wide_depth
attribute [local go_sem] Oper.semAt_some
section
variable {o : Oper} {a : Act} {w w' : World} {n : Nat} {Q : Exit → Act → World → Prop} {v : Value}
theorem wpListIn_valW {ops : Array Oper} {rest : List Oper} (hg : o.guard = none) (hrun : (execOp a.eval o).run Try.prog w = .ok (.value v) w') (h : wpListIn Fence.wide n Try.prog ops Q rest (a.put o.dst v) w') : wpListIn Fence.wide n Try.prog ops Q (o :: rest) a w :=
  wpListIn_plain hg fun _ hK => ⟨fun _ _ => trivial, by rw [Fence.wide_round, Oper.semAt_none, hrun]; exact hK _ _ h⟩
end
theorem wpOpIn_of {F : Fence} {n : Nat} {P : Program} {ops : Array Oper} {Q : Exit → Act → World → Prop} {i : Nat} {o : Oper} {K : Act → World → Prop} {a : Act} {w : World} (ho : ops[i]? = some o) (hg : o.guard = none) (h : o.wpIn F n P a w K Q) : wpOpIn F n P ops Q i K a w := by
  unfold wpOpIn
  rw [ho]
  simp only [Region.wanted, hg, if_true]
  exact h
theorem r_assign {o : Oper} {a : Act} {w : World} {v : Value} (x : Operand) (ho : o.op = .assign x) (hx : a.eval x = v) : (execOp a.eval o).run Try.prog w = .ok (.value v) w := by
  unfold execOp; simp only [ho, hx]; rfl
theorem fld95_1 (b : Nat) (w : World) : (Instr.fieldAt 102 (.pointer (some ⟨b, 0, none⟩)) 1).run Try.prog w = .ok (.pointer (some ⟨b, 2, none⟩)) w := by kernel_rfl
theorem fld95_0 (b : Nat) (w : World) : (Instr.fieldAt 102 (.pointer (some ⟨b, 0, none⟩)) 0).run Try.prog w = .ok (.pointer (some ⟨b, 0, none⟩)) w := by kernel_rfl
theorem call70 (args : Array Value) (w : World) : (callFunc 94 args).run Try.prog w = .ok (.enter 94 args) w := enters_of Try.func94 (by kernel_rfl) rfl args w
theorem call119 (args : Array Value) (w : World) : (callFunc 165 args).run Try.prog w = .ok (.enter 165 args) w := enters_of Try.func165 (by kernel_rfl) rfl args w
/-- the rewriting under way: its system's box, the list it writes -/
structure RwSt (w : World) (cs : Array Value) (B : Nat) (X : List Int) (W : World) : Prop where
  below : Below w.heap.size w W
  box : W.heap[w.heap.size]? = some (.cells cs 102 (0, 0))
  out : ∃ A c, W.heap[w.heap.size + 1]? = some (.cells #[.slice A X.length c] 25 (0, 0)) ∧ OwnI B W (.slice A X.length c) X
theorem RwSt.below' {w W W' : World} {cs : Array Value} {B : Nat} {X : List Int} (h : RwSt w cs B X W) (hb : Below W.heap.size W W') : RwSt w cs B X W' :=
  ⟨h.below.trans (hb.mono h.below.size), (hb.block _ (Array.getElem?_eq_some_iff.1 h.box).1).trans h.box, let ⟨A, c, h1, h2⟩ := h.out; ⟨A, c, (hb.block _ (Array.getElem?_eq_some_iff.1 h1).1).trans h1, owns_below h2 hb⟩⟩
theorem RwSt.other {w W W' : World} {cs : Array Value} {B : Nat} {X : List Int} (h : RwSt w cs B X W) (l : Nat) (h1 : w.heap.size + 1 < l) (he : W'.os = W.os ∧ W'.tape = W.tape ∧ W'.output = W.output ∧ W.heap.size ≤ W'.heap.size)
    (hk : ∀ k, k ≠ l → W'.heap[k]? = W.heap[k]?) (hl : l < B ∨ ∃ o : Obj, W.heap[l]? = some o ∧ o.isCells = false) : RwSt w cs B X W' := by
  refine ⟨h.below.trans ⟨he.1, he.2.1, he.2.2.1, he.2.2.2, fun k hk' => hk k (by omega)⟩, (hk _ (by omega)).trans h.box, ?_⟩
  obtain ⟨A, c, h2, h3⟩ := h.out
  refine ⟨A, c, (hk _ (by omega)).trans h2, owns_keep h3 fun r hr => hk r fun e => ?_⟩
  obtain ⟨h4, C, h5⟩ := owns_block h3 r hr
  rcases hl with hl | ⟨o, h6, h7⟩
  · omega
  · rw [e, h6] at h5; cases h5; cases h7
theorem RwSt.push {w W : World} {cs : Array Value} {B : Nat} {X : List Int} (h : RwSt w cs B X W) (hB : w.heap.size + 2 ≤ B) (hBW : B ≤ W.heap.size) (hX : X.length ≤ 1000000) (z : Int) : ∃ A c A' c' W', W.cell? ⟨w.heap.size + 1, 0, none⟩ = some (.slice A X.length c) ∧
    (Builtin.append_ #[25, 25] 25 #[.slice A X.length c, .slice (some ⟨W.heap.size, 0, none⟩) 1 1]).run Try.prog (W.alloc (.cells #[.int .i64 z] 3)) = .ok (.slice A' (X.length + 1) c') W' ∧
    (W'.cell? ⟨w.heap.size + 1, 0, none⟩ = some (.slice A X.length c) ∧ W'.frozen? ⟨w.heap.size + 1, 0, none⟩ = false) ∧
    Turned (w.heap.size + 1) B W (W'.setCell ⟨w.heap.size + 1, 0, none⟩ (.slice A' (X.length + 1) c')) ∧ RwSt w cs B (X ++ [z]) (W'.setCell ⟨w.heap.size + 1, 0, none⟩ (.slice A' (X.length + 1) c')) := by
  obtain ⟨A, c, h1, h2⟩ := h.out
  obtain ⟨A', c', W', hr, ho, hg, hw⟩ := push_int 25 25 Try.underlying25 W B _ X h2 z (by omega) hBW
  have hrow : ∀ r, (Value.slice A X.length c).ownBlock = some r → B ≤ r ∧ ∃ o : Obj, W.heap[r]? = some o ∧ o.isCells = true := fun r hr => by
    obtain ⟨h4, C, h5⟩ := owns_block h2 r hr
    exact ⟨h4, _, h5, rfl⟩
  have hne : ∀ k, k < W.heap.size → k < B → W'.heap[k]? = W.heap[k]? := fun k hk hkB => hg.block k hk fun e => by have := (hrow k e.symm).1; omega
  have hwl := h.below.size
  have h1lt := (Array.getElem?_eq_some_iff.1 h1).1
  have h1' := (hne _ h1lt (by omega)).trans h1
  have hset : ∀ k, k ≠ w.heap.size + 1 → (W'.setCell ⟨w.heap.size + 1, 0, none⟩ (.slice A' (X.length + 1) c')).heap[k]? = W'.heap[k]? := fun k hk => Below.heap_setCell W' ⟨w.heap.size + 1, 0, none⟩ _ k hk
  refine ⟨A, c, A', c', W', (cell_of1 h1).1, hr, cell_of1 h1', (Turned.grown hg hrow).trans (Turned.set _), ?_, ?_, A', c', ?_, ?_⟩
  · have hsz := hg.size
    exact h.below.trans ⟨hg.os, hg.tape, hg.output, by simpa [World.setCell] using hsz, fun k hk => (hset k (by omega)).trans (hne k (by omega) (by omega))⟩
  · exact (hset _ (by omega)).trans ((hne _ (by omega) (by omega)).trans h.box)
  · simp [World.setCell, Array.getElem?_modify, h1']
  · rw [List.length_append]
    refine owns_keep ho fun r hr' => hset r fun e => ?_
    obtain ⟨h4, C, h5⟩ := owns_block ho r hr'
    omega
def encW (t : Tb) (ws : List Int) (r0 : Nat) (k : Nat) : Array Value := #[.int .i64 (runTo t ws r0 k : Int), .int .i64 (ws.getD k 0)]
/-- the activation of rewrite at a round's body -/
def bare76 (b : Nat) (sv v vt : Value) (r0 : Int) (fv : Value) (ra xa : Int) (r x : Int) : Act := 
  { tmps := #[sv, .int .i64 r0, v, .pointer (some ⟨b, 0, none⟩), undef, undef, .slice none 0 0, .pointer (some ⟨b + 1, 0, none⟩), .int .i64 ra, .int .i64 xa, undef, .pointer (some ⟨b, 0, none⟩), vt, .int .i64 r0, v, fv, .int .i64 r, .int .i64 x, undef, undef, undef, undef, undef, undef, undef, undef, undef, undef, undef, undef, undef, undef, undef, undef, undef, undef, undef, undef, undef, undef, undef, undef, undef, undef], defers := [] }
def RwPost (w : World) (x : List Int) (e : Ending) (w' : World) : Prop := ∃ A c, e = .returned (.slice A x.length c) ∧ OwnI w.heap.size w' (.slice A x.length c) x ∧ Below w.heap.size w w'
set_option maxRecDepth 100000 in
set_option maxHeartbeats 4000000 in
theorem rewrite76_in (n : Nat) (w : World) (vt vr : Value) (bm : Nat) (vl v : Value) (g : Nat) (t : Tb) (R : List W) (r : Nat) (ws : List Int) (hS : SysAt w vt vr bm vl t R (pairs t R g)) (hg : TGood g t) (hs : Std t) (hr : r < t.length)
    (hw : IntsAt w v ws) (hl : LetsOk g ws) (hlen : ws.length ≤ 100000) :
    CallsIn Fence.wide n Try.prog 100 #[.agg #[vt, vr, .map (some bm), vl], .int .i64 (r : Int), v] w (RwPost w (rwW t R g r ws)) := by
  obtain ⟨At, ct, rfl⟩ := Tab.form hS.tab
  obtain ⟨Ar, cr, rfl⟩ := Tab.form hS.reps
  obtain ⟨base, hls⟩ := hS.list
  obtain ⟨Al, cl, rfl⟩ := OwnP.form hls
  obtain ⟨Aw, cw, rfl, -, -, -⟩ := hw.open_
  have HSY := Lib.hid hS
  have HG := Lib.hid hg
  have HSD := Lib.hid hs
  have HW := Lib.hid hw
  have HL := Lib.hid hl
  have hnew := heap_alloc_new w (.cells #[.slice At t.length ct, .slice Ar R.length cr, .map (some bm), .slice Al (pairs t R g).length cl] 102)
  have hbx := box_cells ((Below.heap_alloc (w.alloc (.cells #[.slice At t.length ct, .slice Ar R.length cr, .map (some bm), .slice Al (pairs t R g).length cl] 102)) (.cells #[.slice none 0 0] 25) w.heap.size (by simp)).trans hnew)
  have HBX := Lib.hid ((Below.heap_alloc (w.alloc (.cells #[.slice At t.length ct, .slice Ar R.length cr, .map (some bm), .slice Al (pairs t R g).length cl] 102)) (.cells #[.slice none 0 0] 25) w.heap.size (by simp)).trans hnew)
  clear hS hls hg hs hw hl hnew hbx
  refine callsIn_of_wp_marks Try.func100 rfl trivial ?_ rfl
  simp only [Try.ntmps100, List.size_toArray, List.length_cons, List.length_nil, Nat.reduceAdd, Nat.reduceSub, Array.replicate_succ, Array.replicate_zero, List.push_toArray, List.append_toArray, List.nil_append, List.cons_append]
  gi_wp2_with (first
    | ((with_reducible refine wpListIn_selR 12 ?_); refine wpListIn_valW rfl (r_loadAt 96 (.tmp 11) _ _ rfl rfl (load89 HBX.out)) ?_)
    | ((refine (callsIn_wide.2 (walk118 _ _ _ _ _ _ _ _ _ _ _)).mono ?_); rintro e w' ⟨rfl, rfl⟩))
  obtain ⟨W1, hW1⟩ : ∃ W1, (w.alloc (.cells #[.slice At t.length ct, .slice Ar R.length cr, .map (some bm), .slice Al (pairs t R g).length cl] 102)).alloc (.cells #[.slice none 0 0] 25) = W1 := ⟨_, rfl⟩
  have hs1 : W1.heap.size = w.heap.size + 2 := by rw [← hW1]; simp
  have hb1 : Below w.heap.size w W1 := by rw [← hW1]; exact ((Below.refl _ w).alloc (Nat.le_refl _) _).alloc (by simp) _
  have ho1 : W1.heap[w.heap.size + 1]? = some (.cells #[.slice none 0 0] 25 (0, 0)) := by rw [← hW1]; have := heap_alloc_new (w.alloc (.cells #[.slice At t.length ct, .slice Ar R.length cr, .map (some bm), .slice Al (pairs t R g).length cl] 102)) (.cells #[.slice none 0 0] 25); rwa [World.size_alloc] at this
  have hx1 := HBX.out
  rw [hW1] at hx1 ⊢
  obtain ⟨W0, hW0⟩ : ∃ W0, allocs W1 [.cells #[.slice At t.length ct, .slice Ar R.length cr] 96, .cells #[.int .i64 (r : Int)] 3, .cells #[.slice Aw ws.length cw] 25] = W0 := ⟨_, rfl⟩
  have hs0 : W0.heap.size = w.heap.size + 5 := by rw [← hW0]; simp [allocs, hs1]
  have hb0 : Below W1.heap.size W1 W0 := by rw [← hW0]; exact allocs_below _ _ _ (Nat.le_refl _)
  have hg0 : ∀ (i : Nat) (o : Obj), [Obj.cells #[.slice At t.length ct, .slice Ar R.length cr] 96, .cells #[.int .i64 (r : Int)] 3, .cells #[.slice Aw ws.length cw] 25][i]? = some o → W0.heap[w.heap.size + 2 + i]? = some o := fun i o h => by rw [← hW0, ← hs1]; exact allocs_get _ W1 i o h
  have hst : WkSt w W0 (w.heap.size + 4) (w.heap.size + 3) (w.heap.size + 2) (.slice Aw ws.length cw) (.slice At t.length ct) (.slice Ar R.length cr) r :=
    ⟨hb1.trans (hb0.mono (by omega)), hg0 2 _ rfl, hg0 0 _ rfl, hg0 1 _ rfl⟩
  have hrw : RwSt w #[.slice At t.length ct, .slice Ar R.length cr, .map (some bm), .slice Al (pairs t R g).length cl] W0.heap.size [] W0 :=
    ⟨hst.below, (hb0.block _ (by omega)).trans hx1, none, 0, (hb0.block _ (by omega)).trans ho1, World.ownsRow_nil _ _ _ _⟩
  rw [hW0, show w.heap.size + 1 + 1 + 2 = w.heap.size + 4 from rfl, show w.heap.size + 1 + 1 + 1 = w.heap.size + 3 from rfl, show w.heap.size + 1 + 1 = w.heap.size + 2 from rfl]
  have HST := Lib.hid hst
  have HRW := Lib.hid hrw
  clear hW1 hb1 ho1 hx1 hW0 hb0 hg0 hst hrw HBX
  refine wpIn_rangeWalk (gf := 206) (lb := #[.pointer (some ⟨w.heap.size + 4, 0, none⟩), .pointer (some ⟨w.heap.size + 3, 0, none⟩), .pointer (some ⟨w.heap.size + 2, 0, none⟩)]) rfl (enters_of Try.func206 (by kernel_rfl) rfl)
    (encs := encW t ws r) (S := WkS w (w.heap.size + 4) (w.heap.size + 3) (w.heap.size + 2)) ws.length (w.heap.size + 1) (w.heap.size + 3) (by omega) (by omega) (fun k hk => by unfold WkS at hk; omega) (fun _ => rfl)
    (fun l J W hb hJa hJs hY h0 => walk145 (n - 1) l _ _ _ J W w _ _ _ _ _ g t ws r (HST.out.below' hb) (by omega) HSY.out.tab HW.out HG.out HSD.out HL.out hr hJa hJs hY h0)
    (fun k W => RwSt w #[.slice At t.length ct, .slice Ar R.length cr, .map (some bm), .slice Al (pairs t R g).length cl] W0.heap.size (rwTo t R g ws r k).2 W)
    (fun k A B h hb => h.below' hb) (fun k A v h hc => h.other (w.heap.size + 3) (by omega) ⟨rfl, rfl, rfl, by simp [World.setCell]⟩ (fun k hk => Below.heap_setCell A ⟨w.heap.size + 3, 0, none⟩ v k hk) (.inl (by omega)))
    (fun k A l o o' h hl ho hn => h.other l (by omega) ⟨rfl, rfl, rfl, by simp⟩ (fun k hk => World.putObj_heap_other hk) (.inr ⟨o, ho, hn⟩))
    HRW.out (fun k => bare76 w.heap.size (.agg #[.slice At t.length ct, .slice Ar R.length cr, .map (some bm), .slice Al (pairs t R g).length cl]) (.slice Aw ws.length cw) (.agg #[.slice At t.length ct, .slice Ar R.length cr]) r
      (.func (.func 206) #[] #[.pointer (some ⟨w.heap.size + 4, 0, none⟩), .pointer (some ⟨w.heap.size + 3, 0, none⟩), .pointer (some ⟨w.heap.size + 2, 0, none⟩)]) (runTo t ws r k) (ws.getD k 0) (runTo t ws r k) (ws.getD k 0)) ?assign ?body ?done
  case assign =>
    rintro l k W K hK
    simp only [encW]
    gi_wp2_with (rw [Oper.semAt_eq _ _ _ (fun c h => by cases h)]; go_simp)
    exact hK
  case body =>
    rintro l k W hRW hk hsz
    have hrk := runTo_lt HG.out HSD.out HL.out hr k (by omega)
    have hx := HL.out.at_ hk
    have hsucc := rwTo_succ t R g ws r k
    have hlen2 := rwTo_len t R g ws r k
    have hbd := letN_bd HG.out HSD.out R hrk hx
    have hg16 := HG.out.g16
    obtain ⟨c, hc, hcol, hat, hlt2⟩ := stepW_at HG.out HSD.out hrk hx
    have hrowl := HG.out.len _ hrk
    have hn2 := HG.out.n2
    have hnum : ∀ (W' : World) (r' j : Nat), r' < t.length → j < g → Below w.heap.size w W' → Calls Try.prog 165 #[.agg #[.map (some bm), .slice Al (pairs t R g).length cl], .int .i64 (r' : Int), .int .i64 ((j + 1 : Nat) : Int)] W' fun e w' => e = .returned (.int .i64 (number t R g r' j)) ∧ Below W'.heap.size W' w' := fun W' r' j hr' hj hb => by
      have := number119_any W' bm Al (pairs t R g).length cl (pairs t R g) r' j ((HSY.out.below hb).map) ⟨by omega, by omega⟩
      unfold pairs at this ⊢
      rwa [place_number hr' hj] at this
    have hstep : ∀ W', Below w.heap.size w W' → Calls Try.prog 94 #[.agg #[.slice At t.length ct, .slice Ar R.length cr], .int .i64 (runTo t ws r k : Int), .int .i64 (ws.getD k 0)] W' fun e w' => e = .returned (.int .i64 (stepW t (runTo t ws r k) (ws.getD k 0) : Int)) ∧ Below W'.heap.size W' w' := fun W' hb => by
      rw [← hat]
      exact step70_any W' _ Ar R.length cr t _ _ c (kept_tab.below HSY.out.tab hb) hrk (by rw [hrowl]; exact hc) hcol ⟨by omega, by omega⟩
    have hletN : letN t R g (runTo t ws r k) (ws.getD k 0) = if 0 < ws.getD k 0 then number t R g (runTo t ws r k) (ws.getD k 0 - 1).toNat else -number t R g (stepW t (runTo t ws r k) (ws.getD k 0)) (-ws.getD k 0 - 1).toNat := rfl
    have HRW := Lib.hid hRW
    have HSUCC := Lib.hid hsucc
    have HNUM := Lib.hid hnum
    have HSTEP := Lib.hid hstep
    have HLET := Lib.hid hletN
    clear hRW hsucc hnum hstep hletN hcol hat hrowl HST
    generalize rwTo t R g ws r (k + 1) = X' at *
    generalize rwTo t R g ws r k = X2 at *
    generalize letN t R g (runTo t ws r k) (ws.getD k 0) = N at *
    generalize stepW t (runTo t ws r k) (ws.getD k 0) = s at *
    generalize runTo t ws r k = rk at *
    generalize ws.getD k 0 = x at *
    obtain ⟨hx1, hx2, hx3⟩ := hx
    obtain ⟨hN1, hN2⟩ := hbd
    have hx4 : -1000 ≤ x := by omega
    have hx5 : x ≤ 1000 := by omega
    have HBX := Lib.hid (fun W' (hb : Below W.heap.size W W') => (hb.block _ (Array.getElem?_eq_some_iff.1 HRW.out.box).1).trans HRW.out.box)
    have HS0 := Lib.hid hs0
    clear hs0
    by_cases hp : 0 < x
    · have HN : Hid (∀ W', Below w.heap.size w W' → Calls Try.prog 165 #[.agg #[.map (some bm), .slice Al (pairs t R g).length cl], .int .i64 (rk : Int), .int .i64 x] W' fun e w' => e = .returned (.int .i64 N) ∧ Below W'.heap.size W' w') := Lib.hid fun W' hb => by
        have := HNUM.out W' rk (x - 1).toNat hrk (by omega) hb
        rw [show (((x - 1).toNat + 1 : Nat) : Int) = x by omega] at this
        rw [HLET.out, if_pos hp]
        exact this
      clear HNUM HSTEP HLET
      simp only [bare76]
      by_cases hN0 : N = 0
      · have d1 : (N != 0) = false := by simpa using hN0
        have HX : Hid (X'.2 = X2.2) := Lib.hid (by rw [HSUCC.out, if_neg (by simpa using hN0)])
        clear HSUCC hN0
        gi_wp2_with (first
          | ((with_reducible refine wpListIn_selR 21 ?_); refine wpListIn_valR rfl (fun c h => by cases h) (r_loadAt 100 (.tmp 20) _ _ rfl rfl (load93 (HBX.out W (Below.refl _ _)))) ?_)
          | (refine CallsIn.mono (show CallsIn Fence.wide _ _ _ _ _ _ from callsIn_wide.2 (HN.out W HRW.out.below)) ?_; rintro e W2 ⟨rfl, hb⟩
             have HB2 := Lib.hid hb
             clear hb)
          | (rw [Oper.semAt_eq _ _ _ (fun c h => by cases h)]; go_simp))
        exact ⟨Turned.of_below HB2.out, by show RwSt _ _ _ X'.2 _; rw [HX.out]; exact HRW.out.below' HB2.out⟩
      · have d1 : (N != 0) = true := by simpa using hN0
        have HX : Hid (X'.2 = X2.2 ++ [N]) := Lib.hid (by rw [HSUCC.out, if_pos (by simpa using hN0)])
        clear HSUCC hN0
        gi_wp2_with (first
          | ((with_reducible refine wpListIn_selR 21 ?_); refine wpListIn_valR rfl (fun c h => by cases h) (r_loadAt 100 (.tmp 20) _ _ rfl rfl (load93 (HBX.out W (Below.refl _ _)))) ?_)
          | (refine CallsIn.mono (show CallsIn Fence.wide _ _ _ _ _ _ from callsIn_wide.2 (HN.out W HRW.out.below)) ?_; rintro e W2 ⟨rfl, hb⟩
             have HB2 := Lib.hid hb
             obtain ⟨A, c, A', c', W3, hxc, happ, ⟨hyc, hyf⟩, htu, hrs⟩ := (HRW.out.below' hb).push (by have := HS0.out; omega) (Nat.le_trans hsz hb.size) (by omega) N
             have HAPP := Lib.hid happ
             have HTU := Lib.hid htu
             have HRS := Lib.hid hrs
             clear hb happ htu hrs)
          | ((with_reducible refine wpListIn_selR 41 ?_); refine wpListIn_valR rfl (fun c h => by cases h) (r_app (.tmp 38) (.tmp 40) 25 rfl rfl rfl HAPP.out) ?_)
          | (rw [Oper.semAt_eq _ _ _ (fun c h => by cases h)]; go_simp))
        exact ⟨(Turned.of_below HB2.out).trans HTU.out, by show RwSt _ _ _ X'.2 _; rw [HX.out]; exact HRS.out⟩
    · obtain ⟨M, hM1, hM2⟩ : ∃ M, M = number t R g s (-x - 1).toNat ∧ N = -M := ⟨_, rfl, by rw [HLET.out, if_neg hp]⟩
      have HN : Hid (∀ W', Below w.heap.size w W' → Calls Try.prog 165 #[.agg #[.map (some bm), .slice Al (pairs t R g).length cl], .int .i64 (s : Int), .int .i64 (-x)] W' fun e w' => ∃ v, e = .returned v ∧ v = .int .i64 M ∧ Below W'.heap.size W' w') := Lib.hid fun W' hb => by
        have := HNUM.out W' s (-x - 1).toNat hlt2 (by omega) hb
        rw [show (((-x - 1).toNat + 1 : Nat) : Int) = -x by omega, ← hM1] at this
        exact this.mono fun e w' ⟨h1, h2⟩ => ⟨_, h1, rfl, h2⟩
      have HST2 : Hid (∀ W', Below w.heap.size w W' → Calls Try.prog 94 #[.agg #[.slice At t.length ct, .slice Ar R.length cr], .int .i64 (rk : Int), .int .i64 x] W' fun e w' => ∃ v, e = .returned v ∧ v = .int .i64 (s : Int) ∧ Below W'.heap.size W' w') :=
        Lib.hid fun W' hb => (HSTEP.out W' hb).mono fun e w' ⟨h1, h2⟩ => ⟨_, h1, rfl, h2⟩
      clear HNUM HSTEP HLET hM1
      simp only [bare76]
      gi_wp2_with (rw [Oper.semAt_eq _ _ _ (fun c h => by cases h)]; go_simp)
      refine wpIn_region_tail (by kernel_rfl) 25 10 (tailed_of (by kernel_rfl)) (fun w' => Below W.heap.size W w')
        (fun q v _ => v = [Value.pointer (some ⟨w.heap.size, 2, none⟩), .agg #[.map (some bm), .slice Al (pairs t R g).length cl], .pointer (some ⟨w.heap.size, 0, none⟩), .agg #[.slice At t.length ct, .slice Ar R.length cr], .int .i64 (rk : Int), .int .i64 x, .int .i64 (s : Int), .int .i64 x, .int .i64 (-x), .int .i64 M].getD q undef)
        (fun w w' => Below w.heap.size w w') (fun _ _ _ _ _ h => h) (Nat.le_of_ble_eq_true rfl) (Below.refl _ _).drew ?_ ?_
      · intro q o a w4 hq ho hS hsame hpre
        have hcases : q = 0 ∨ q = 1 ∨ q = 2 ∨ q = 3 ∨ q = 4 ∨ q = 5 ∨ q = 6 ∨ q = 7 ∨ q = 8 ∨ q = 9 := by omega
        rcases hcases with rfl | rfl | rfl | rfl | rfl | rfl | rfl | rfl | rfl | rfl
        · obtain rfl := Option.some.inj ho; exact ⟨rfl, rfl, (by exact wpR_val (fun c h => by cases h) (r_fld (.tmp 3) _ rfl (hsame.out 3 (.inl (by decide))) (fld95_1 _ _)) ⟨_, rfl, hS, Below.refl _ _, rfl⟩)⟩
        · obtain rfl := Option.some.inj ho; exact ⟨rfl, rfl, (by exact wpR_val (fun c h => by cases h) (r_loadAt 100 (.tmp 25) _ _ rfl (hpre ⟨0, .data⟩ (by simp) rfl) (load93 (HBX.out _ hS))) ⟨_, rfl, hS, Below.refl _ _, rfl⟩)⟩
        · obtain rfl := Option.some.inj ho; exact ⟨rfl, rfl, (by exact wpR_val (fun c h => by cases h) (r_fld (.tmp 3) _ rfl (hsame.out 3 (.inl (by decide))) (fld95_0 _ _)) ⟨_, rfl, hS, Below.refl _ _, rfl⟩)⟩
        · obtain rfl := Option.some.inj ho; exact ⟨rfl, rfl, (by exact wpR_val (fun c h => by cases h) (r_loadAt 96 (.tmp 27) _ _ rfl (hpre ⟨2, .data⟩ (by simp) rfl) (load89 (HBX.out _ hS))) ⟨_, rfl, hS, Below.refl _ _, rfl⟩)⟩
        · obtain rfl := Option.some.inj ho; exact ⟨rfl, rfl, (by exact wpR_val (fun c h => by cases h) (r_move (.tmp 8) rfl (hsame.out 8 (.inl (by decide)))) ⟨_, rfl, hS, Below.refl _ _, rfl⟩)⟩
        · obtain rfl := Option.some.inj ho; exact ⟨rfl, rfl, (by exact wpR_val (fun c h => by cases h) (r_move (.tmp 9) rfl (hsame.out 9 (.inl (by decide)))) ⟨_, rfl, hS, Below.refl _ _, rfl⟩)⟩
        · obtain rfl := Option.some.inj ho; exact ⟨rfl, rfl, (by exact wpR_call (fun c h => by cases h) (r_call3 (.tmp 28) (.tmp 29) (.tmp 30) _ _ _ _ rfl (hpre ⟨3, .data⟩ (by simp) rfl) (hpre ⟨4, .data⟩ (by simp) rfl) (hpre ⟨5, .data⟩ (by simp) rfl) call70) (HST2.out w4 (HRW.out.below.trans (hS.mono HRW.out.below.size))) (fun v w'' h => ⟨v, rfl, hS.trans (h.2.mono hS.size), h.2, h.1⟩))⟩
        · obtain rfl := Option.some.inj ho; exact ⟨rfl, rfl, (by exact wpR_val (fun c h => by cases h) (r_move (.tmp 9) rfl (hsame.out 9 (.inl (by decide)))) ⟨_, rfl, hS, Below.refl _ _, rfl⟩)⟩
        · obtain rfl := Option.some.inj ho; exact ⟨rfl, rfl, (by exact wpR_val (fun c h => by cases h) (r_neg (.tmp 32) x rfl (hpre ⟨7, .data⟩ (by simp) rfl) ⟨by omega, by omega⟩) ⟨_, rfl, hS, Below.refl _ _, rfl⟩)⟩
        · obtain rfl := Option.some.inj ho; exact ⟨rfl, rfl, (by exact wpR_call (fun c h => by cases h) (r_call3 (.tmp 26) (.tmp 31) (.tmp 33) _ _ _ _ rfl (hpre ⟨1, .data⟩ (by simp) rfl) (hpre ⟨6, .data⟩ (by simp) rfl) (hpre ⟨8, .data⟩ (by simp) rfl) call119) (HN.out w4 (HRW.out.below.trans (hS.mono HRW.out.below.size))) (fun v w'' h => ⟨v, rfl, hS.trans (h.2.mono hS.size), h.2, h.1⟩))⟩
      · intro a W2 hS hsame hsl
        have HB2 := Lib.hid hS
        have hfr := hsame.frame (Nat.le_of_ble_eq_true rfl)
        refine wpOpIn_of rfl rfl (wpR_val (fun c h => by cases h) (r_neg (.tmp 34) M rfl (hsl 9 (by omega)) ⟨by omega, by omega⟩) ?_)
        refine wpOpIn_of rfl rfl (wpR_val (fun c h => by cases h) (r_assign (.tmp 35) rfl (put_getD_same _ _ _ (by rw [hsame.size]; exact Nat.le_of_ble_eq_true rfl))) ?_)
        clear hS hsl
        generalize (fun i => a.tmps.getD (25 + i) undef) = vs at hfr
        subst hfr
        rw [← hM2]
        clear hM2
        simp only [Act.put, List.take_succ_cons, List.take_zero, List.drop_succ_cons, List.drop_zero, List.map_cons, List.map_nil, List.range, List.range.loop, List.cons_append, List.nil_append, List.setIfInBounds_toArray, Nat.reduceAdd]
        by_cases hN0 : N = 0
        · have d1 : (N != 0) = false := by simpa using hN0
          have HX : Hid (X'.2 = X2.2) := Lib.hid (by rw [HSUCC.out, if_neg (by simpa using hN0)])
          clear HSUCC hN0
          gi_wp2_with (rw [Oper.semAt_eq _ _ _ (fun c h => by cases h)]; go_simp)
          exact ⟨Turned.of_below HB2.out, by show RwSt _ _ _ X'.2 _; rw [HX.out]; exact HRW.out.below' HB2.out⟩
        · have d1 : (N != 0) = true := by simpa using hN0
          have HX : Hid (X'.2 = X2.2 ++ [N]) := Lib.hid (by rw [HSUCC.out, if_pos (by simpa using hN0)])
          clear HSUCC hN0
          obtain ⟨A, c, A', c', W3, hxc, happ, ⟨hyc, hyf⟩, htu, hrs⟩ := (HRW.out.below' HB2.out).push (by have := HS0.out; omega) (Nat.le_trans hsz HB2.out.size) (by omega) N
          have HAPP := Lib.hid happ
          have HTU := Lib.hid htu
          have HRS := Lib.hid hrs
          clear happ htu hrs
          gi_wp2_with (first
            | ((with_reducible refine wpListIn_selR 41 ?_); refine wpListIn_valR rfl (fun c h => by cases h) (r_app (.tmp 38) (.tmp 40) 25 rfl rfl rfl HAPP.out) ?_)
            | (rw [Oper.semAt_eq _ _ _ (fun c h => by cases h)]; go_simp))
          exact ⟨(Turned.of_below HB2.out).trans HTU.out, by show RwSt _ _ _ X'.2 _; rw [HX.out]; exact HRS.out⟩
  case done =>
    rintro D W hD hRW hDD
    obtain ⟨A, c, ho, hown⟩ := hRW.out
    have hob := (cell_of1 ho).1
    have hmild := rwTo_mild HG.out HSD.out R HL.out hr ws.length (Nat.le_refl _)
    have hlen2 := rwTo_len t R g ws r ws.length
    have HOB := Lib.hid hob
    have HRED := Lib.hid (reduce99_any W (.slice A (rwTo t R g ws r ws.length).2.length c) (rwTo t R g ws r ws.length).2 (OwnI.ints hown (Mild.fits hmild)) hmild (by omega))
    have HRWE : Hid (rwW t R g r ws = red (rwTo t R g ws r ws.length).2) := Lib.hid rfl
    have HRS := Lib.hid hRW.below
    have HDD := Lib.hid hDD
    clear hmild hown ho hRW hob hDD
    generalize (rwTo t R g ws r ws.length).2 = X at *
    have hob := HOB.out
    gi_wp2_with ((refine (callsIn_wide.2 HRED.out).mono ?_); rintro e w' ⟨A', c', rfl, h1, h2⟩)
    have hDD2 := (h2.block D (Array.getElem?_eq_some_iff.1 HDD.out).1).trans HDD.out
    refine ⟨by simp, .inl ⟨_, _, rfl, run_takeDeferred hDD2, ?_⟩⟩
    refine ⟨_, results_tmp rfl _ _ _, ?_⟩
    rw [HRWE.out]
    have hkk : ∀ k, k ≠ D → (w'.putObj D (.deferred none)).heap[k]? = w'.heap[k]? := fun k hk => World.putObj_heap_other hk
    refine ⟨A', c', rfl, owns_base (owns_keep h1 fun r hr' => hkk r fun e => ?_) HRS.out.size, (HRS.out.trans (h2.mono HRS.out.size)).trans ⟨rfl, rfl, rfl, by simp, fun k hk => hkk k (by omega)⟩⟩
    obtain ⟨-, C, hC⟩ := owns_block h1 r hr'
    rw [e, hDD2] at hC
    cases hC
end Go.Proofs
namespace Go.Proofs
open Go.RowKit Go.Shelf Go.Proofs.Ct Go.Maps
/-- no letter of a table of g generators -/
def letBad (g : Nat) (x : Int) : Bool := decide (x = 0) || decide (x < -(g : Int)) || decide ((g : Int) < x)
theorem letsOk_of {g : Nat} {w : List Int} (h : w.any (letBad g) = false) : LetsOk g w := fun x hx => by
  have := List.any_eq_false.1 h x hx
  unfold letBad at this
  simp at this
  omega
theorem rwW_mild {g : Nat} {t : Tb} (hg : TGood g t) (hs : Std t) (R : List W) {w : List Int} (hw : LetsOk g w) {r : Nat} (hr : r < t.length) : ∀ z ∈ rwW t R g r w, Mild z := fun z hz =>
  rwTo_mild hg hs R hw hr w.length (Nat.le_refl _) z (redTo_mem (Nat.le_refl _) hz)
end Go.Proofs
namespace Go.Proofs
open Go.RowKit Go.Shelf Go.Proofs.Ct Go.Maps
/-- the error of the relator k -/
def presBad (g : Nat) (rels : List W) (k : Nat) : Int := if 4000 < sumTo rels (k + 1) then 4 else if (rels.getD k []).any (letBad g) = true then 2 else 0
def presE (g : Int) (rels : List W) : Int :=
  if g < 1 ∨ 16 < g then 2 else if 100 < rels.length then 4 else
  match first (fun k => decide (presBad g.toNat rels k ≠ 0)) rels.length with
  | some k => presBad g.toNat rels k
  | none => 0
theorem presE_some {g : Nat} {rels : List W} (hg : 1 ≤ g ∧ g ≤ 16) (hl : rels.length ≤ 100) {k : Nat} (hk : k < rels.length) (hz : ∀ j, j < k → presBad g rels j = 0) (hb : presBad g rels k ≠ 0) : presE g rels = presBad g rels k := by
  unfold presE
  rw [if_neg (by omega), if_neg (by omega), first_some hk (by simpa using hb) (fun j hj => by simpa using hz j hj)]
  rfl
theorem presE_none {g : Nat} {rels : List W} (hg : 1 ≤ g ∧ g ≤ 16) (hl : rels.length ≤ 100) (hz : ∀ j, j < rels.length → presBad g rels j = 0) : presE g rels = 0 := by
  unfold presE
  rw [if_neg (by omega), if_neg (by omega), first_none (fun j hj => by simpa using hz j hj)]
theorem pred121 (g B : Nat) (vr : Value) (w : World) (hg : g ≤ 16) (hc : w.cell? ⟨B, 0, none⟩ = some (.int .i64 (g : Int))) (_hc1 : w.cell? ⟨B, 1, none⟩ = some vr) :
    PredW 167 #[.pointer (some ⟨B, 0, none⟩)] (fun x => -9223372036854775808 ≤ x ∧ x ≤ 9223372036854775807) (letBad g) w := fun x q hx => by
  have hcq : (w.drewN q).cell? ⟨B, 0, none⟩ = some (.int .i64 (g : Int)) := hc
  show Calls Try.prog 167 #[.int .i64 x, .pointer (some ⟨B, 0, none⟩)] (w.drewN q) _
  have h0 : letBad g x = (decide (x = 0) || decide (x < -(g : Int)) || decide ((g : Int) < x)) := rfl
  have H0 := Lib.hid h0
  clear h0
  generalize hW : w.drewN q = W at *
  have HW := Lib.hid hW
  clear hW
  have hg0 : (0 : Int) ≤ (g : Int) := Int.natCast_nonneg _
  have hg1 : (g : Int) ≤ 16 := by omega
  by_cases h1 : x = 0
  · subst h1
    go_enter Try.func167, Try.ntmps167
    go_wp2_with fail
    go_ret
    exact ⟨ret_bool (by rw [H0.out]; simp), q, HW.out.symm⟩
  · have d1 : (x == 0) = false := by simpa using h1
    by_cases h2 : x < -(g : Int)
    · go_enter Try.func167, Try.ntmps167
      go_wp2_with fail
      go_ret
      exact ⟨ret_bool (by rw [H0.out]; simp [h2]), q, HW.out.symm⟩
    · by_cases h3 : (g : Int) < x
      · go_enter Try.func167, Try.ntmps167
        go_wp2_with fail
        go_ret
        exact ⟨ret_bool (by rw [H0.out]; simp [h3]), q, HW.out.symm⟩
      · go_enter Try.func167, Try.ntmps167
        go_wp2_with fail
        go_ret
        exact ⟨ret_bool (by rw [H0.out]; simp [h1, h2, h3]), q, HW.out.symm⟩
theorem eg121 : ∀ args w, (callFunc 167 args).run Try.prog w = .ok (.enter 167 args) w := enters_of Try.func167 (by kernel_rfl) rfl
end Go.Proofs
namespace Go.Proofs
open Go.RowKit Go.Shelf Go.Proofs.Ct Go.Maps
def PresPost (g : Int) (rels : List W) (w : World) (e : Ending) (w' : World) : Prop := (∃ y, e = .returned (.tuple #[.int .i64 (presE g rels), .int .i64 y])) ∧ Below w.heap.size w w'
theorem presE_range {g : Int} {rels : List W} (h : g < 1 ∨ 16 < g) : presE g rels = 2 := by unfold presE; rw [if_pos h]
theorem presE_many {g : Int} {rels : List W} (h : ¬ (g < 1 ∨ 16 < g)) (h2 : 100 < rels.length) : presE g rels = 4 := by unfold presE; rw [if_neg h, if_pos h2]
theorem sumTo_succ (rels : List W) (k : Nat) : sumTo rels (k + 1) = sumTo rels k + (rels.getD k []).length := rfl
theorem presBad_long {g : Nat} {rels : List W} {k : Nat} (h : 4000 < sumTo rels (k + 1)) : presBad g rels k = 4 := by unfold presBad; rw [if_pos h]
theorem presBad_let {g : Nat} {rels : List W} {k : Nat} (h : ¬ 4000 < sumTo rels (k + 1)) (h2 : (rels.getD k []).any (letBad g) = true) : presBad g rels k = 2 := by unfold presBad; rw [if_neg h, if_pos h2]
theorem presBad_ok {g : Nat} {rels : List W} {k : Nat} (h : ¬ 4000 < sumTo rels (k + 1)) (h2 : (rels.getD k []).any (letBad g) = false) : presBad g rels k = 0 := by unfold presBad; rw [if_neg h, h2]; rfl
set_option maxRecDepth 100000 in
set_option maxHeartbeats 1000000 in
theorem pcheck78_any (w : World) (vr : Value) (g : Int) (rels : List W) (hR : Tab w vr rels) : Calls Try.prog 102 #[.agg #[.int .i64 g, vr]] w (PresPost g rels w) := by
  obtain ⟨Ar, cr, rfl, r1, r2, r3⟩ := hR.open_
  have hbel : Below w.heap.size w (w.alloc (.cells #[.int .i64 g, .slice Ar rels.length cr] 40)) := (Below.refl _ _).alloc (Nat.le_refl _) _
  have HBE := Lib.hid hbel
  have HR := Lib.hid r3
  have hnew := heap_alloc_new w (.cells #[.int .i64 g, .slice Ar rels.length cr] 40)
  have hn0 : (0 : Int) ≤ (rels.length : Int) := Int.natCast_nonneg _
  by_cases h1 : g < 1 ∨ 16 < g
  · have HZ := Lib.hid (presE_range (rels := rels) h1)
    clear hR r3 hbel hnew
    by_cases h2 : g < 1
    · clear h1
      go_enter Try.func102, Try.ntmps102
      go_wp2_with fail
      go_ret2
      exact ⟨⟨_, ret_pair HZ.out.symm rfl⟩, HBE.out⟩
    · have h3 : 16 < g := by omega
      clear h1
      go_enter Try.func102, Try.ntmps102
      go_wp2_with fail
      go_ret2
      exact ⟨⟨_, ret_pair HZ.out.symm rfl⟩, HBE.out⟩
  · obtain ⟨gn, rfl⟩ : ∃ gn : Nat, g = gn := ⟨g.toNat, by omega⟩
    have hg1 : ¬ (gn : Int) < 1 := by omega
    have hg2 : ¬ (16 : Int) < (gn : Int) := by omega
    by_cases h4 : 100 < rels.length
    · have h4' : (100 : Int) < (rels.length : Int) := by omega
      have HZ := Lib.hid (presE_many (rels := rels) h1 h4)
      clear hR r3 hbel hnew h1 h4
      go_enter Try.func102, Try.ntmps102
      go_wp2_with fail
      go_ret2
      exact ⟨⟨_, ret_pair HZ.out.symm rfl⟩, HBE.out⟩
    · have h4' : ¬ (100 : Int) < (rels.length : Int) := by omega
      have h4'' : (rels.length : Int) ≤ 100 := by omega
      have HS : Hid (∀ k, k < rels.length → (∀ j, j < k → presBad gn rels j = 0) → presBad gn rels k ≠ 0 → presE (gn : Int) rels = presBad gn rels k) := Lib.hid fun k => presE_some (by omega) (by omega)
      have HN := Lib.hid (@presE_none gn rels (by omega) (by omega))
      have HP : Hid (∀ q, PredW 167 #[.pointer (some ⟨w.heap.size, 0, none⟩)] (fun x => -9223372036854775808 ≤ x ∧ x ≤ 9223372036854775807) (letBad gn) ((w.alloc (.cells #[.int .i64 (gn : Int), .slice Ar rels.length cr] 40)).drewN q)) := Lib.hid fun q => pred121 gn w.heap.size (.slice Ar rels.length cr) _ (by omega) (cell_of2 hnew).1 (cell_of2 hnew).2
      clear hR r3 hbel hnew h1 h4
      go_enter Try.func102, Try.ntmps102
      go_wp2_with fail
      generalize hw0 : w.alloc (.cells #[.int .i64 (gn : Int), .slice Ar rels.length cr] 40) = w0 at *
      clear hw0
      go_loopw [4, 24] (fun l i wr => ∃ k s : Nat, i = .int .i64 k ∧ k ≤ rels.length ∧ l = .int .i64 (4000 - (s : Int)) ∧ s ≤ 4000 ∧ Hid (s = sumTo rels k ∧ ∀ j, j < k → presBad gn rels j = 0) ∧ ∃ q, wr = w0.drewN q) (fun _ i _ => rels.length - (intOf i).toNat)
      case atStart => exact ⟨0, 0, rfl, by omega, rfl, by omega, Lib.hid ⟨rfl, fun j hj => absurd hj (by omega)⟩, 0, rfl⟩
      case round =>
        obtain ⟨k, s, rfl, hk, rfl, hs, HK, q, rfl⟩ := hrel
        have hk0 : (0 : Int) ≤ (k : Int) := Int.natCast_nonneg _
        by_cases hlt : k < rels.length
        · have hlt' : (k : Int) < (rels.length : Int) := by omega
          obtain ⟨b, o, rfl, hcc⟩ := HR.out (by omega)
          obtain ⟨u, hu, hI⟩ := hcc k hlt
          have hu' : (w0.drewN q).cell? ⟨b, o + k, none⟩ = some u := (HBE.out.cell (p := ⟨b, o + k, none⟩) (World.block_lt_of_cell? w _ hu)).trans hu
          have HI := Lib.hid (hI.below HBE.out)
          obtain ⟨Au, cu, rfl, u1, u2, -⟩ := hI.open_
          have HSU := Lib.hid (sumTo_succ rels k)
          have HBL := Lib.hid (@presBad_long gn rels k)
          have HBT := Lib.hid (@presBad_let gn rels k)
          have HBO := Lib.hid (@presBad_ok gn rels k)
          have HSK : Hid (presBad gn rels k ≠ 0 → presE gn rels = presBad gn rels k) := Lib.hid (HS.out k hlt HK.out.2)
          have HNX : Hid (presBad gn rels k = 0 → ∀ j, j < k + 1 → presBad gn rels j = 0) := Lib.hid fun h => all_succ HK.out.2 h
          have HSM := Lib.hid HK.out.1
          have HPR := Lib.hid (has74_any 167 _ _ _ (w0.drewN q) eg121 (HP.out q) _ (rels.getD k []) (HI.out.drewN q) (fun x hx => HI.out.2 x hx))
          have hln0 : (0 : Int) ≤ ((rels.getD k []).length : Int) := Int.natCast_nonneg _
          clear hcc hI hu HI HS HN HP HR
          generalize hpe : presE (gn : Int) rels = pe at *
          have HPE := Lib.hid hpe
          clear hpe
          generalize presBad gn rels k = pb at *
          generalize hsm : sumTo rels (k + 1) = sm at *
          have HSME := Lib.hid hsm
          clear hsm
          generalize (rels.getD k []).any (letBad gn) = lb at *
          generalize (rels.getD k []).length = L at *
          have hs0 : (0 : Int) ≤ (s : Int) := Int.natCast_nonneg _
          have hs1 : (s : Int) ≤ 4000 := by omega
          have hL1 : (L : Int) ≤ 9223372036854775807 := by omega
          by_cases hov : 4000 < s + L
          · have hov' : (4000 : Int) - (s : Int) - (L : Int) < 0 := by omega
            have HZ : Hid (pe = 4) := Lib.hid (by have h1 := HBL.out (by rw [HSU.out, ← HSM.out]; exact hov); rw [HSK.out (by omega), h1])
            clear hov
            go_wp2_with fail
            go_ret2
            exact ⟨⟨_, ret_pair (by rw [HPE.out, HZ.out]) rfl⟩, below_drewN HBE.out _⟩
          · have hov' : ¬ (4000 : Int) - (s : Int) - (L : Int) < 0 := by omega
            have HSV := Lib.hid hov
            have hsl : s + L ≤ 4000 := by omega
            clear hov
            cases lb with
            | true =>
              have HZ : Hid (pe = 2) := Lib.hid (by have h1 := HBT.out (by rw [HSU.out, ← HSM.out]; exact HSV.out) rfl; rw [HSK.out (by omega), h1])
              go_wp2_with (go_at_call 98; (refine HPR.out.mono ?_); rintro e w' ⟨rfl, q', rfl⟩)
              go_ret2
              exact ⟨⟨_, ret_pair (by rw [HPE.out, HZ.out]) rfl⟩, below_drewN HBE.out _⟩
            | false =>
              have HZ : Hid (∀ j, j < k + 1 → presBad gn rels j = 0) := Lib.hid (HNX.out (HBO.out (by rw [HSU.out, ← HSM.out]; exact HSV.out) rfl))
              go_wp2_with (go_at_call 98; (refine HPR.out.mono ?_); rintro e w' ⟨rfl, q', rfl⟩)
              go_roundw
              case rel => exact ⟨k + 1, s + L, by go_num, by omega, congrArg (Value.int .i64) (by omega), hsl, Lib.hid ⟨by rw [HSME.out, HSU.out, HSM.out], HZ.out⟩, (by first | exact ⟨_, rfl⟩ | exact ex_drewN)⟩
              case measure => simp [intOf]; omega
        · obtain rfl : k = rels.length := by omega
          have HZ := Lib.hid (HN.out HK.out.2)
          clear HS HN HP HR
          go_wp2_with fail
          go_ret2
          exact ⟨⟨_, ret_pair HZ.out.symm rfl⟩, below_drewN HBE.out _⟩
end Go.Proofs
namespace Go.Proofs
open Go.RowKit Go.Shelf Go.Proofs.Ct Go.Maps
theorem col_lt {g : Nat} {x : Int} (h : -(g : Int) ≤ x ∧ x ≤ g ∧ x ≠ 0) : col x < 2 * g := by
  unfold col
  split <;> omega
theorem col_pos {x : Int} (h : 0 < x) : ((col x : Nat) : Int) = 2 * (x - 1) := by unfold col; rw [if_pos h]; omega
theorem col_neg {x : Int} (h : ¬ 0 < x) (h0 : x ≠ 0) : ((col x : Nat) : Int) = 2 * (-x - 1) + 1 := by unfold col; rw [if_neg h]; omega
theorem col133_any (w : World) (x : Int) (h : -1000000 ≤ x ∧ x ≤ 1000000 ∧ x ≠ 0) : Calls Try.prog 179 #[.int .i64 x] w fun e w' => e = .returned (.int .i64 (col x : Nat)) ∧ w = w' := by
  obtain ⟨h1, h2, h3⟩ := h
  by_cases hp : x < 0
  · have HC := Lib.hid (col_neg (by omega : ¬ 0 < x) h3)
    go_enter Try.func179, Try.ntmps179
    go_wp2_with fail
    go_ret
    exact ⟨ret_int (by rw [HC.out]), (by first | trivial | rfl)⟩
  · have HC := Lib.hid (col_pos (by omega : 0 < x))
    go_enter Try.func179, Try.ntmps179
    go_wp2_with fail
    go_ret
    exact ⟨ret_int (by rw [HC.out]), (by first | trivial | rfl)⟩
/-- where a word leads stays in the table, or is nowhere -/
theorem leadTo_bd {g : Nat} {t : Tb} (hg : TGood g t) {ws : List Int} (hl : LetsOk g ws) {r : Int} (hr : -1 ≤ r ∧ r < t.length) : ∀ k, k ≤ ws.length → -1 ≤ leadTo t r ws k ∧ leadTo t r ws k < t.length
  | 0, _ => hr
  | k + 1, hk => by
    have ih := leadTo_bd hg hl hr k (by omega)
    rw [leadTo_succ]
    split
    · exact ih
    · exact hg.bd _ (by omega) _ (col_lt (hl.at_ (by omega)))
theorem ret_ib {k : IntKind} {a c : Int} {b d : Bool} (h : a = c) (h' : b = d) : Ending.returned (.tuple #[.int k a, .bool b]) = Ending.returned (.tuple #[.int k c, .bool d]) := by rw [h, h']
def TracePost (l : Int) (w : World) (e : Ending) (w' : World) : Prop := (e = .returned (.tuple #[.int .i64 (if l < 0 then 0 else l), .bool (decide (0 ≤ l))])) ∧ ∃ q, w' = w.drewN q
set_option maxRecDepth 100000 in
set_option maxHeartbeats 1000000 in
theorem trace94_any (w : World) (v u : Value) (g : Nat) (t : Tb) (r : Nat) (ws : List Int) (ht : Tab w v t) (hu : IntsAt w u ws) (hg : TGood g t) (hl : LetsOk g ws) (hr : r < t.length) :
    Calls Try.prog 118 #[v, .int .i64 (r : Int), u] w (TracePost (leads t r ws) w) := by
  obtain ⟨A, c, rfl, h1, h2, h3⟩ := ht.open_
  obtain ⟨Au, cu, rfl, hu1, hu2, hu3⟩ := hu.open_
  obtain ⟨bt, ot, rfl, h4⟩ := h3 (by omega)
  have HT := Lib.hid h4
  have HU := Lib.hid hu3
  have HG := Lib.hid hg
  have HL := Lib.hid hl
  have hrI : (r : Int) < (t.length : Int) := by omega
  have hr0 : (0 : Int) ≤ (r : Int) := Int.natCast_nonneg _
  have HBD := Lib.hid (fun k hk => leadTo_bd hg hl (r := (r : Int)) (by omega) k hk)
  have hn2 := hg.n2
  have hg16 := hg.g16
  clear ht hu h3 h4 hu3 hg hl
  go_enter Try.func118, Try.ntmps118
  go_wp2_with fail
  go_loopw [1, 12] (fun f i wr => ∃ k s : Nat, i = .int .i64 k ∧ k ≤ ws.length ∧ f = .int .i64 (s : Int) ∧ s < t.length ∧ Hid ((s : Int) = leadTo t r ws k) ∧ ∃ q, wr = w.drewN q) (fun _ i _ => ws.length - (intOf i).toNat)
  case atStart => exact ⟨0, r, rfl, by omega, rfl, hr, Lib.hid rfl, 0, rfl⟩
  case round =>
    obtain ⟨k, s, rfl, hk, rfl, hs, HS, q, rfl⟩ := hrel
    have hk0 : (0 : Int) ≤ (k : Int) := Int.natCast_nonneg _
    have hs0 : (0 : Int) ≤ (s : Int) := Int.natCast_nonneg _
    by_cases hlt : k < ws.length
    · have hlt' : (k : Int) < (ws.length : Int) := by omega
      have hsI : (s : Int) < (t.length : Int) := by omega
      obtain ⟨bw, ow, rfl, hcc⟩ := HU.out (by omega)
      have hck := hcc k hlt
      obtain ⟨u, hu, hI⟩ := HT.out s hs
      have hI2 : IntsAt w u (t.row s) := hI
      obtain ⟨Ar, cr, rfl, hr1, hr2, hr3⟩ := hI2.open_
      have hx := HL.out.at_ hlt
      have hcol := col_lt hx
      have hrl := HG.out.len s hs
      obtain ⟨br, or', rfl, hrc⟩ := hr3 (by omega)
      have hcx := hrc (col (ws.getD k 0)) (by omega)
      have hbd := HG.out.bd s hs _ hcol
      have HNX : Hid (leadTo t r ws (k + 1) = (t.row s).getD (col (ws.getD k 0)) 0) := Lib.hid (by
        rw [leadTo_succ, ← HS.out, if_neg (by omega), Int.toNat_natCast]; rfl)
      have HNEG : Hid ((t.row s).getD (col (ws.getD k 0)) 0 < 0 → leads t r ws < 0) := Lib.hid fun h => leads_neg (k := k + 1) (by omega) (by rw [HNX.out]; exact h)
      have HCO : Hid (∀ n, Calls Try.prog 179 #[.int .i64 (ws.getD k 0)] (w.drewN n) fun e w' => e = .returned (.int .i64 (col (ws.getD k 0) : Nat)) ∧ w.drewN n = w') := Lib.hid fun n => col133_any _ _ (by omega)
      have hc0 : (0 : Int) ≤ ((col (ws.getD k 0) : Nat) : Int) := Int.natCast_nonneg _
      have hc1 : ((col (ws.getD k 0) : Nat) : Int) < ((t.row s).length : Int) := by omega
      have hbd' : -1 ≤ (t.row s).getD (col (ws.getD k 0)) 0 ∧ (t.row s).getD (col (ws.getD k 0)) 0 < t.length := hbd
      clear hcc hI hI2 hr3 hrc hx hcol hrl hbd
      generalize (t.row s).getD (col (ws.getD k 0)) 0 = y at *
      generalize col (ws.getD k 0) = cx at *
      generalize ws.getD k 0 = x at *
      obtain ⟨hy1, hy2⟩ := hbd'
      by_cases hy : y < 0
      · have HLN := Lib.hid (HNEG.out hy)
        go_wp2_with fail
        go_quiet ((go_at_call 179; exact quiet_add_left (HCO.out _)))
        go_wp2_with fail
        go_ret2
        exact ⟨ret_ib (by rw [if_pos HLN.out]) (by have := HLN.out; simp; omega), (by first | exact ⟨_, rfl⟩ | exact ex_drewN)⟩
      · obtain ⟨s', rfl⟩ : ∃ s' : Nat, y = s' := ⟨y.toNat, by omega⟩
        go_wp2_with fail
        go_quiet ((go_at_call 179; exact quiet_add_left (HCO.out _)))
        go_wp2_with fail
        go_roundw
        case rel => exact ⟨k + 1, s', by go_num, by omega, rfl, by omega, Lib.hid HNX.out.symm, (by first | exact ⟨_, rfl⟩ | exact ex_drewN)⟩
        case measure => simp [intOf]; omega
    · obtain rfl : k = ws.length := by omega
      have HZ : Hid ((s : Int) = leads t r ws) := Lib.hid HS.out
      go_wp2_with fail
      go_ret2
      exact ⟨ret_ib (by rw [← HZ.out, if_neg (by omega)]) (by rw [← HZ.out]; simp), (by first | exact ⟨_, rfl⟩ | exact ex_drewN)⟩
theorem pred124 (g B : Nat) (w : World) (hg : g ≤ 16) (hc : w.cell? ⟨B, 0, none⟩ = some (.int .i64 (g : Int))) :
    PredW 170 #[.pointer (some ⟨B, 0, none⟩)] (fun x => -9223372036854775808 ≤ x ∧ x ≤ 9223372036854775807) (letBad g) w := fun x q hx => by
  have hcq : (w.drewN q).cell? ⟨B, 0, none⟩ = some (.int .i64 (g : Int)) := hc
  show Calls Try.prog 170 #[.int .i64 x, .pointer (some ⟨B, 0, none⟩)] (w.drewN q) _
  have h0 : letBad g x = (decide (x = 0) || decide (x < -(g : Int)) || decide ((g : Int) < x)) := rfl
  have H0 := Lib.hid h0
  clear h0
  generalize hW : w.drewN q = W at *
  have HW := Lib.hid hW
  clear hW
  have hg0 : (0 : Int) ≤ (g : Int) := Int.natCast_nonneg _
  have hg1 : (g : Int) ≤ 16 := by omega
  by_cases h1 : x = 0
  · subst h1
    go_enter Try.func170, Try.ntmps170
    go_wp2_with fail
    go_ret
    exact ⟨ret_bool (by rw [H0.out]; simp), q, HW.out.symm⟩
  · have d1 : (x == 0) = false := by simpa using h1
    by_cases h2 : x < -(g : Int)
    · go_enter Try.func170, Try.ntmps170
      go_wp2_with fail
      go_ret
      exact ⟨ret_bool (by rw [H0.out]; simp [h2]), q, HW.out.symm⟩
    · by_cases h3 : (g : Int) < x
      · go_enter Try.func170, Try.ntmps170
        go_wp2_with fail
        go_ret
        exact ⟨ret_bool (by rw [H0.out]; simp [h3]), q, HW.out.symm⟩
      · go_enter Try.func170, Try.ntmps170
        go_wp2_with fail
        go_ret
        exact ⟨ret_bool (by rw [H0.out]; simp [h1, h2, h3]), q, HW.out.symm⟩
theorem eg124 : ∀ args w, (callFunc 170 args).run Try.prog w = .ok (.enter 170 args) w := enters_of Try.func170 (by kernel_rfl) rfl
set_option maxRecDepth 100000 in
theorem fine83_any (w : World) (g : Nat) (u : Value) (ws : List Int) (hg : g ≤ 16) (hu : IntsAt w u ws) : Calls Try.prog 107 #[.int .i64 (g : Int), u] w fun e w' => e = .returned (.bool (!(ws.any (letBad g)))) ∧ Below w.heap.size w w' := by
  have hb0 : Below w.heap.size w (w.alloc (.cells #[.int .i64 (g : Int)] 3)) := (Below.refl _ _).alloc (Nat.le_refl _) _
  have hnew0 := heap_alloc_new w (.cells #[.int .i64 (g : Int)] 3)
  have HC := Lib.hid (has74_any 170 _ _ _ (w.alloc (.cells #[.int .i64 (g : Int)] 3)) eg124 (pred124 g w.heap.size _ hg (cell_of1 hnew0).1) u ws (kept_ints.below hu hb0) (fun x hx => hu.2 x hx))
  have HB := Lib.hid hb0
  obtain ⟨A, c, rfl, -, -, -⟩ := hu.open_
  clear hu hb0 hnew0
  generalize ws.any (letBad g) = b at *
  go_enter Try.func107, Try.ntmps107
  go_wp2_with (go_at_call 98; (refine HC.out.mono ?_); rintro e w2 ⟨rfl, q, rfl⟩)
  go_ret
  exact ⟨rfl, below_drewN HB.out _⟩
end Go.Proofs
namespace Go.Proofs
open Go.RowKit Go.Shelf Go.Proofs.Ct Go.Maps
/-- function g, bound to lb, answers p at the rows of xs -/
def PredB (g : Nat) (lb : Array Value) (p : List Int → Bool) (w : World) (xs : List (List Int)) : Prop :=
  ∀ (W : World) (u : Value) (k : Nat), Below w.heap.size w W → k < xs.length → IntsAt W u (xs.getD k []) → Calls Try.prog g (#[u] ++ lb) W fun e w' => e = .returned (.bool (p (xs.getD k []))) ∧ Below W.heap.size W w'
theorem any_false_ofR {p : List Int → Bool} {xs : List (List Int)} (h : ∀ j, j < xs.length → p (xs.getD j []) = false) : xs.any p = false := by
  rw [List.any_eq_false]
  intro x hx
  obtain ⟨c, hc, rfl⟩ := List.mem_iff_getElem.1 hx
  have := h c hc
  rw [List.getD_eq_getElem?_getD, List.getElem?_eq_getElem hc] at this
  simpa using this
theorem any_true_ofR {p : List Int → Bool} {xs : List (List Int)} {k : Nat} (hk : k < xs.length) (h : p (xs.getD k []) = true) : xs.any p = true := by
  rw [List.any_eq_true]
  rw [List.getD_eq_getElem?_getD, List.getElem?_eq_getElem hk] at h
  exact ⟨_, List.getElem_mem hk, h⟩
section
variable (g : Nat) (lb : Array Value) (p : List Int → Bool) (w : World) (eg : ∀ args w, (callFunc g args).run Try.prog w = .ok (.enter g args) w) (v : Value) (xs : List (List Int)) (h : Tab w v xs) (hp : PredB g lb p w xs)
include eg hp h
set_option maxRecDepth 100000 in
set_option maxHeartbeats 400000 in
theorem idx139_any : Calls Try.prog 185 #[v, .func (.func g) #[] lb] w fun e w' => IdxSaid (xs.any p) e ∧ Below w.heap.size w w' := by
  obtain ⟨A, c, rfl, hc1, hc2, hc⟩ := h.open_
  have HC := Lib.hid hc
  have HP := Lib.hid hp
  clear hc hp h
  go_enter Try.func185, Try.ntmps185
  go_wp2_with fail
  go_loopw [5, 8] (fun _ i wr => ∃ k : Nat, k ≤ xs.length ∧ i = .int .i64 k ∧ Hid (∀ j, j < k → p (xs.getD j []) = false) ∧ Hid (Below w.heap.size w wr)) (fun _ i _ => xs.length - (intOf i).toNat)
  case atStart => exact ⟨0, Nat.zero_le _, rfl, Lib.hid fun j hj => absurd hj (by omega), Lib.hid (Below.refl _ _)⟩
  case round =>
    obtain ⟨k, hk, rfl, HZ, HB⟩ := hrel
    have hk0 : (0 : Int) ≤ (k : Int) := Int.natCast_nonneg _
    by_cases hlt : k < xs.length
    · have hlt' : (k : Int) < (xs.length : Int) := by omega
      obtain ⟨b, o, rfl, hcc⟩ := HC.out (by omega)
      obtain ⟨u, hu, hI⟩ := hcc k hlt
      have hu' := (HB.out.cell (p := ⟨b, o + k, none⟩) (World.block_lt_of_cell? w _ hu)).trans hu
      have hI2 := hI.below HB.out
      have hcall := HP.out wr u k HB.out hlt hI2
      obtain ⟨Ar, cr, rfl, -, -, -⟩ := hI2.open_
      clear hcc hu hI hI2
      have HA := Lib.hid (any_true_ofR (p := p) hlt)
      have HN : Hid (p (xs.getD k []) = false → ∀ j, j < k + 1 → p (xs.getD j []) = false) := Lib.hid fun h => all_succ HZ.out h
      generalize hpx : p (xs.getD k []) = pb at *
      have HPX := Lib.hid hpx
      clear hpx
      generalize xs.getD k [] = x at *
      have HCALL := Lib.hid hcall
      clear hcall
      cases pb with
      | true =>
        have HA2 := Lib.hid (HA.out rfl)
        go_wp2_with (go_at_fn g; (refine HCALL.out.mono ?_); rintro e w' ⟨rfl, hb⟩; have HB2 := Lib.hid (HB.out.trans (hb.mono HB.out.size)); clear hb)
        go_ret
        exact ⟨⟨k, rfl, by rw [HA2.out]; simp⟩, HB2.out⟩
      | false =>
        have HN2 := Lib.hid (HN.out rfl)
        go_wp2_with (go_at_fn g; (refine HCALL.out.mono ?_); rintro e w' ⟨rfl, hb⟩; have HB2 := Lib.hid (HB.out.trans (hb.mono HB.out.size)); clear hb)
        go_roundw
        case rel => exact ⟨k + 1, by omega, by go_num, HN2, HB2⟩
        case measure => simp [intOf]; omega
    · obtain rfl : k = xs.length := by omega
      go_wp2_with fail
      go_ret
      exact ⟨⟨-1, rfl, by rw [any_false_ofR HZ.out]; rfl⟩, HB.out⟩
theorem has105_any : Calls Try.prog 129 #[v, .func (.func g) #[] lb] w fun e w' => e = .returned (.bool (xs.any p)) ∧ Below w.heap.size w w' := by
  have hcon := Lib.hid (idx139_any g lb p w eg v xs h hp)
  clear hp h
  go_enter Try.func129, Try.ntmps129
  go_wp2_with (go_at_call 185; (refine hcon.out.mono ?_); rintro e w' ⟨⟨r, rfl, hr⟩, hb⟩; have HR := Lib.hid hr; have HB := Lib.hid hb; clear hr hb)
  go_ret
  exact ⟨ret_bool HR.out, HB.out⟩
end
section
variable (g : Nat) (lb : Array Value) (p : List Int → Bool) (w : World) (eg : ∀ args w, (callFunc g args).run Try.prog w = .ok (.enter g args) w) (v : Value) (xs : List (List Int)) (h : Tab w v xs) (hp : PredB g lb p w xs)
include eg hp h
set_option maxRecDepth 100000 in
set_option maxHeartbeats 400000 in
theorem idx123_any : Calls Try.prog 169 #[v, .func (.func g) #[] lb] w fun e w' => IdxSaid (xs.any p) e ∧ Below w.heap.size w w' := by
  obtain ⟨A, c, rfl, hc1, hc2, hc⟩ := h.open_
  have HC := Lib.hid hc
  have HP := Lib.hid hp
  clear hc hp h
  go_enter Try.func169, Try.ntmps169
  go_wp2_with fail
  go_loopw [5, 8] (fun _ i wr => ∃ k : Nat, k ≤ xs.length ∧ i = .int .i64 k ∧ Hid (∀ j, j < k → p (xs.getD j []) = false) ∧ Hid (Below w.heap.size w wr)) (fun _ i _ => xs.length - (intOf i).toNat)
  case atStart => exact ⟨0, Nat.zero_le _, rfl, Lib.hid fun j hj => absurd hj (by omega), Lib.hid (Below.refl _ _)⟩
  case round =>
    obtain ⟨k, hk, rfl, HZ, HB⟩ := hrel
    have hk0 : (0 : Int) ≤ (k : Int) := Int.natCast_nonneg _
    by_cases hlt : k < xs.length
    · have hlt' : (k : Int) < (xs.length : Int) := by omega
      obtain ⟨b, o, rfl, hcc⟩ := HC.out (by omega)
      obtain ⟨u, hu, hI⟩ := hcc k hlt
      have hu' := (HB.out.cell (p := ⟨b, o + k, none⟩) (World.block_lt_of_cell? w _ hu)).trans hu
      have hI2 := hI.below HB.out
      have hcall := HP.out wr u k HB.out hlt hI2
      obtain ⟨Ar, cr, rfl, -, -, -⟩ := hI2.open_
      clear hcc hu hI hI2
      have HA := Lib.hid (any_true_ofR (p := p) hlt)
      have HN : Hid (p (xs.getD k []) = false → ∀ j, j < k + 1 → p (xs.getD j []) = false) := Lib.hid fun h => all_succ HZ.out h
      generalize hpx : p (xs.getD k []) = pb at *
      have HPX := Lib.hid hpx
      clear hpx
      generalize xs.getD k [] = x at *
      have HCALL := Lib.hid hcall
      clear hcall
      cases pb with
      | true =>
        have HA2 := Lib.hid (HA.out rfl)
        go_wp2_with (go_at_fn g; (refine HCALL.out.mono ?_); rintro e w' ⟨rfl, hb⟩; have HB2 := Lib.hid (HB.out.trans (hb.mono HB.out.size)); clear hb)
        go_ret
        exact ⟨⟨k, rfl, by rw [HA2.out]; simp⟩, HB2.out⟩
      | false =>
        have HN2 := Lib.hid (HN.out rfl)
        go_wp2_with (go_at_fn g; (refine HCALL.out.mono ?_); rintro e w' ⟨rfl, hb⟩; have HB2 := Lib.hid (HB.out.trans (hb.mono HB.out.size)); clear hb)
        go_roundw
        case rel => exact ⟨k + 1, by omega, by go_num, HN2, HB2⟩
        case measure => simp [intOf]; omega
    · obtain rfl : k = xs.length := by omega
      go_wp2_with fail
      go_ret
      exact ⟨⟨-1, rfl, by rw [any_false_ofR HZ.out]; rfl⟩, HB.out⟩
theorem has81_any : Calls Try.prog 105 #[v, .func (.func g) #[] lb] w fun e w' => e = .returned (.bool (xs.any p)) ∧ Below w.heap.size w w' := by
  have hcon := Lib.hid (idx123_any g lb p w eg v xs h hp)
  clear hp h
  go_enter Try.func105, Try.ntmps105
  go_wp2_with (go_at_call 169; (refine hcon.out.mono ?_); rintro e w' ⟨⟨r, rfl, hr⟩, hb⟩; have HR := Lib.hid hr; have HB := Lib.hid hb; clear hr hb)
  go_ret
  exact ⟨ret_bool HR.out, HB.out⟩
end
set_option maxRecDepth 100000 in
set_option maxHeartbeats 400000 in
theorem idx140_any (w : World) (v : Value) (xs : List Int) (z : Int) (h : IntsAt w v xs) : Calls Try.prog 186 #[v, .int .i64 z] w fun e w' => IdxSaid (xs.contains z) e ∧ w' = w := by
  obtain ⟨A, c, rfl, hc1, hc2, hc⟩ := h.open_
  have HC := Lib.hid hc
  clear hc h
  go_enter Try.func186, Try.ntmps186
  go_wp2_with fail
  go_loopw [5, 8] (fun _ i wr => ∃ k : Nat, k ≤ xs.length ∧ i = .int .i64 k ∧ Hid (∀ j, j < k → xs.getD j 0 ≠ z) ∧ wr = w) (fun _ i _ => xs.length - (intOf i).toNat)
  case atStart => exact ⟨0, Nat.zero_le _, rfl, Lib.hid fun j hj => absurd hj (by omega), rfl⟩
  case round =>
    obtain ⟨k, hk, rfl, HZ, rfl⟩ := hrel
    have hk0 : (0 : Int) ≤ (k : Int) := Int.natCast_nonneg _
    by_cases hlt : k < xs.length
    · have hlt' : (k : Int) < (xs.length : Int) := by omega
      obtain ⟨b, o, rfl, hcc⟩ := HC.out (by omega)
      have hck := hcc k hlt
      have HT : Hid (xs.getD k 0 = z → xs.contains z = true) := Lib.hid fun h => by
        rw [List.contains_iff_mem, ← h, List.getD_eq_getElem?_getD, List.getElem?_eq_getElem hlt]
        exact List.getElem_mem hlt
      have HN : Hid (xs.getD k 0 ≠ z → ∀ j, j < k + 1 → xs.getD j 0 ≠ z) := Lib.hid fun h => all_succ HZ.out h
      clear hcc
      generalize xs.getD k 0 = x at *
      by_cases hx : z = x
      · have d1 : (z == x) = true := by simpa using hx
        have HT2 := Lib.hid (HT.out hx.symm)
        clear hx
        go_wp2_with fail
        go_ret
        exact ⟨⟨k, rfl, by rw [HT2.out]; simp⟩, (by first | trivial | rfl)⟩
      · have d1 : (z == x) = false := by simpa using hx
        have HN2 := Lib.hid (HN.out fun h => hx h.symm)
        clear hx
        go_wp2_with fail
        go_roundw
        case rel => exact ⟨k + 1, by omega, by go_num, HN2, (by first | trivial | rfl)⟩
        case measure => simp [intOf]; omega
    · obtain rfl : k = xs.length := by omega
      have HF : Hid (xs.contains z = false) := Lib.hid (by
        rw [Bool.eq_false_iff]
        intro h
        rw [List.contains_iff_mem] at h
        obtain ⟨i, hi, he⟩ := List.mem_iff_getElem.1 h
        exact HZ.out i hi (by rw [List.getD_eq_getElem?_getD, List.getElem?_eq_getElem hi]; exact he))
      go_wp2_with fail
      go_ret
      exact ⟨⟨-1, rfl, by rw [HF.out]; rfl⟩, (by first | trivial | rfl)⟩
theorem has107_any (w : World) (v : Value) (xs : List Int) (z : Int) (h : IntsAt w v xs) : Calls Try.prog 131 #[v, .int .i64 z] w fun e w' => e = .returned (.bool (xs.contains z)) ∧ w' = w := by
  have hcon := Lib.hid (idx140_any w v xs z h)
  clear h
  go_enter Try.func131, Try.ntmps131
  go_wp2_with (go_at_call 186; (refine hcon.out.mono ?_); rintro e w' ⟨⟨r, rfl, hr⟩, rfl⟩; have HR := Lib.hid hr; clear hr)
  go_ret
  exact ⟨ret_bool HR.out, (by first | trivial | rfl)⟩
theorem neg1_106 (w : World) (v : Value) (xs : List Int) (h : IntsAt w v xs) : Calls Try.prog 130 #[v] w fun e w' => e = .returned (.bool (xs.contains (-1))) ∧ Below w.heap.size w w' := by
  have hcon := Lib.hid (has107_any w v xs (-1) h)
  clear h
  generalize xs.contains (-1) = b at *
  go_enter Try.func130, Try.ntmps130
  go_wp2_with (go_at_call 131; (refine hcon.out.mono ?_); rintro e w' ⟨rfl, rfl⟩)
  go_ret
  exact ⟨rfl, Below.refl _ _⟩
theorem eg106 : ∀ args w, (callFunc 130 args).run Try.prog w = .ok (.enter 130 args) w := enters_of Try.func130 (by kernel_rfl) rfl
theorem complete45_any (w : World) (v : Value) (t : Tb) (ht : Tab w v t) : Calls Try.prog 53 #[v] w fun e w' => e = .returned (.bool (complete t)) ∧ Below w.heap.size w w' := by
  have HC := Lib.hid (has105_any 130 #[] (fun row => row.contains (-1)) w eg106 v t ht fun W u k _ _ hI => neg1_106 W u _ hI)
  obtain ⟨A, c, rfl⟩ := Tab.form ht
  have HE : Hid ((!(t.any fun row => row.contains (-1))) = complete t) := Lib.hid rfl
  clear ht
  generalize (t.any fun row => row.contains (-1)) = b at *
  go_enter Try.func53, Try.ntmps53
  go_wp2_with (go_at_call 129; (refine HC.out.mono ?_); rintro e w' ⟨rfl, hb⟩; have HB := Lib.hid hb; clear hb)
  go_ret
  exact ⟨ret_bool HE.out, HB.out⟩
end Go.Proofs
