/- (system).rewrite; rewrite.Rewrite; Presentations: which are valid, plainly; the letters of a word; pres.Check. -/
import Derived.Test.YtmpnengjboabcaaGreatRgCS9
import Derived.Test.YtmpnengjboabcaaGreatRgCS6
namespace Go.Proofs
open Go.RowKit Go.Shelf Go.Proofs.Ct Go.Maps
attribute [local simp, local go_sem] wide_fn wide_depth
attribute [local go_sem] Oper.semAt_some
section
variable {o : Oper} {a : Act} {w w' : World} {n : Nat} {Q : Exit → Act → World → Prop} {v : Value}
theorem wpListIn_valW {ops : Array Oper} {rest : List Oper} (hg : o.guard = none) (hrun : (execOp a.eval o).run Tryz.prog w = .ok (.value v) w') (h : wpListIn Fence.wide n Tryz.prog ops Q rest (a.put o.dst v) w') : wpListIn Fence.wide n Tryz.prog ops Q (o :: rest) a w :=
  wpListIn_plain hg fun _ hK => ⟨fun _ _ => trivial, by rw [Fence.wide_round, Oper.semAt_none, hrun]; exact hK _ _ h⟩
end
theorem wpOpIn_of {F : Fence} {n : Nat} {P : Program} {ops : Array Oper} {Q : Exit → Act → World → Prop} {i : Nat} {o : Oper} {K : Act → World → Prop} {a : Act} {w : World} (ho : ops[i]? = some o) (hg : o.guard = none) (h : o.wpIn F n P a w K Q) : wpOpIn F n P ops Q i K a w := by
  unfold wpOpIn
  rw [ho]
  simp only [Region.wanted, hg, if_true]
  exact h
theorem r_assign {o : Oper} {a : Act} {w : World} {v : Value} (x : Operand) (ho : o.op = .assign x) (hx : a.eval x = v) : (execOp a.eval o).run Tryz.prog w = .ok (.value v) w := by
  unfold execOp; simp only [ho, hx]; rfl
theorem fld95_1 (b : Nat) (w : World) : (Instr.fieldAt 66 (.pointer (some ⟨b, 0, none⟩)) 1).run Tryz.prog w = .ok (.pointer (some ⟨b, 2, none⟩)) w := by kernel_rfl
theorem fld95_0 (b : Nat) (w : World) : (Instr.fieldAt 66 (.pointer (some ⟨b, 0, none⟩)) 0).run Tryz.prog w = .ok (.pointer (some ⟨b, 0, none⟩)) w := by kernel_rfl
theorem call70 (args : Array Value) (w : World) : (callFunc 25 args).run Tryz.prog w = .ok (.enter 25 args) w := enters_of Tryz.func25 (by kernel_rfl) rfl args w
theorem call119 (args : Array Value) (w : World) : (callFunc 72 args).run Tryz.prog w = .ok (.enter 72 args) w := enters_of Tryz.func72 (by kernel_rfl) rfl args w
structure RwSt (w : World) (cs : Array Value) (B : Nat) (X : List Int) (W : World) : Prop where
  below : Below w.heap.size w W
  box : W.heap[w.heap.size]? = some (.cells cs 66 (0, 0))
  out : ∃ A c, W.heap[w.heap.size + 1]? = some (.cells #[.slice A X.length c] 39 (0, 0)) ∧ OwnI B W (.slice A X.length c) X
theorem RwSt.below' {w W W' : World} {cs : Array Value} {B : Nat} {X : List Int} (h : RwSt w cs B X W) (hb : Below W.heap.size W W') : RwSt w cs B X W' :=
  ⟨h.below.trans (hb.mono h.below.size), (hb.block _ (Array.getElem?_eq_some_iff.1 h.box).1).trans h.box, let ⟨A, c, h1, h2⟩ := h.out; ⟨A, c, (hb.block _ (Array.getElem?_eq_some_iff.1 h1).1).trans h1, owns_below h2 hb⟩⟩
theorem RwSt.other {w W W' : World} {cs : Array Value} {B : Nat} {X : List Int} (h : RwSt w cs B X W) (l : Nat) (h1 : w.heap.size + 1 < l) (he : W'.os = W.os ∧ W'.tape = W.tape ∧ W'.output = W.output ∧ W.heap.size ≤ W'.heap.size)
    (hk : ∀ k, k ≠ l → W'.heap[k]? = W.heap[k]?) (hl : l < B ∨ ∃ o : Obj, W.heap[l]? = some o ∧ o.isCells = false) : RwSt w cs B X W' := by
  refine ⟨h.below.trans ⟨he.1, he.2.1, he.2.2.1, he.2.2.2, fun k hk' => hk k (by omega)⟩, (hk _ (by omega)).trans h.box, ?_⟩
  obtain ⟨A, c, h2, h3⟩ := h.out
  refine ⟨A, c, (hk _ (by omega)).trans h2, owns_keep h3 fun r hr => hk r fun e => ?_⟩
  obtain ⟨h4, C, h5⟩ := owns_block h3 r hr
  rcases hl with hl | ⟨o, h6, h7⟩
  · omega
  · rw [e, h6] at h5; cases h5; cases h7
theorem RwSt.push {w W : World} {cs : Array Value} {B : Nat} {X : List Int} (h : RwSt w cs B X W) (hB : w.heap.size + 2 ≤ B) (hBW : B ≤ W.heap.size) (hX : X.length ≤ 1000000) (z : Int) : ∃ A c A' c' W', W.cell? ⟨w.heap.size + 1, 0, none⟩ = some (.slice A X.length c) ∧
    (Builtin.append_ #[39, 39] 39 #[.slice A X.length c, .slice (some ⟨W.heap.size, 0, none⟩) 1 1]).run Tryz.prog (W.alloc (.cells #[.int .i64 z] 3)) = .ok (.slice A' (X.length + 1) c') W' ∧
    (W'.cell? ⟨w.heap.size + 1, 0, none⟩ = some (.slice A X.length c) ∧ W'.frozen? ⟨w.heap.size + 1, 0, none⟩ = false) ∧
    Turned (w.heap.size + 1) B W (W'.setCell ⟨w.heap.size + 1, 0, none⟩ (.slice A' (X.length + 1) c')) ∧ RwSt w cs B (X ++ [z]) (W'.setCell ⟨w.heap.size + 1, 0, none⟩ (.slice A' (X.length + 1) c')) := by
  obtain ⟨A, c, h1, h2⟩ := h.out
  obtain ⟨A', c', W', hr, ho, hg, hw⟩ := push_int 39 39 Tryz.underlying39 W B _ X h2 z (by omega) hBW
  have hrow : ∀ r, (Value.slice A X.length c).ownBlock = some r → B ≤ r ∧ ∃ o : Obj, W.heap[r]? = some o ∧ o.isCells = true := fun r hr => by
    obtain ⟨h4, C, h5⟩ := owns_block h2 r hr
    exact ⟨h4, _, h5, rfl⟩
  have hne : ∀ k, k < W.heap.size → k < B → W'.heap[k]? = W.heap[k]? := fun k hk hkB => hg.block k hk fun e => by have := (hrow k e.symm).1; omega
  have hwl := h.below.size
  have h1lt := (Array.getElem?_eq_some_iff.1 h1).1
  have h1' := (hne _ h1lt (by omega)).trans h1
  have hset : ∀ k, k ≠ w.heap.size + 1 → (W'.setCell ⟨w.heap.size + 1, 0, none⟩ (.slice A' (X.length + 1) c')).heap[k]? = W'.heap[k]? := fun k hk => Below.heap_setCell W' ⟨w.heap.size + 1, 0, none⟩ _ k hk
  refine ⟨A, c, A', c', W', (cell_of1 h1).1, hr, cell_of1 h1', (Turned.grown hg hrow).trans (Turned.set _), ?_, ?_, A', c', ?_, ?_⟩
  · have hsz := hg.size
    exact h.below.trans ⟨hg.os, hg.tape, hg.output, by simpa [World.setCell] using hsz, fun k hk => (hset k (by omega)).trans (hne k (by omega) (by omega))⟩
  · exact (hset _ (by omega)).trans ((hne _ (by omega) (by omega)).trans h.box)
  · simp [World.setCell, Array.getElem?_modify, h1']
  · rw [List.length_append]
    refine owns_keep ho fun r hr' => hset r fun e => ?_
    obtain ⟨h4, C, h5⟩ := owns_block ho r hr'
    omega
def encW (t : Tb) (ws : List Int) (r0 : Nat) (k : Nat) : Array Value := #[.int .i64 (runTo t ws r0 k : Int), .int .i64 (ws.getD k 0)]
def bare76 (b : Nat) (sv v vt : Value) (r0 : Int) (fv : Value) (ra xa : Int) (r x : Int) : Act := 
  { tmps := #[sv, .int .i64 r0, v, .pointer (some ⟨b, 0, none⟩), undef, undef, .slice none 0 0, .pointer (some ⟨b + 1, 0, none⟩), .int .i64 ra, .int .i64 xa, undef, .pointer (some ⟨b, 0, none⟩), vt, .int .i64 r0, v, fv, .int .i64 r, .int .i64 x, undef, undef, undef, undef, undef, undef, undef, undef, undef, undef, undef, undef, undef, undef, undef, undef, undef, undef, undef, undef, undef, undef, undef, undef, undef, undef], defers := [] }
def RwPost (w : World) (x : List Int) (e : Ending) (w' : World) : Prop := ∃ A c, e = .returned (.slice A x.length c) ∧ OwnI w.heap.size w' (.slice A x.length c) x ∧ Below w.heap.size w w'
set_option maxRecDepth 100000 in
set_option maxHeartbeats 4000000 in
theorem rewrite76_in (n : Nat) (w : World) (vt vr : Value) (bm : Nat) (vl v : Value) (g : Nat) (t : Tb) (R : List W) (r : Nat) (ws : List Int) (hS : SysAt w vt vr bm vl t R (pairs t R g)) (hg : TGood g t) (hs : Std t) (hr : r < t.length)
    (hw : IntsAt w v ws) (hl : LetsOk g ws) (hlen : ws.length ≤ 100000) :
    CallsIn Fence.wide n Tryz.prog 41 #[.agg #[vt, vr, .map (some bm), vl], .int .i64 (r : Int), v] w (RwPost w (rwW t R g r ws)) := by
  obtain ⟨At, ct, rfl⟩ := Tab.form hS.tab
  obtain ⟨Ar, cr, rfl⟩ := Tab.form hS.reps
  obtain ⟨base, hls⟩ := hS.list
  obtain ⟨Al, cl, rfl⟩ := OwnP.form hls
  obtain ⟨Aw, cw, rfl, -, -, -⟩ := hw.open_
  have HSY := Lib.hid hS
  have HG := Lib.hid hg
  have HSD := Lib.hid hs
  have HW := Lib.hid hw
  have HL := Lib.hid hl
  have hnew := heap_alloc_new w (.cells #[.slice At t.length ct, .slice Ar R.length cr, .map (some bm), .slice Al (pairs t R g).length cl] 66)
  have hbx := box_cells ((Below.heap_alloc (w.alloc (.cells #[.slice At t.length ct, .slice Ar R.length cr, .map (some bm), .slice Al (pairs t R g).length cl] 66)) (.cells #[.slice none 0 0] 39) w.heap.size (by simp)).trans hnew)
  have HBX := Lib.hid ((Below.heap_alloc (w.alloc (.cells #[.slice At t.length ct, .slice Ar R.length cr, .map (some bm), .slice Al (pairs t R g).length cl] 66)) (.cells #[.slice none 0 0] 39) w.heap.size (by simp)).trans hnew)
  clear hS hls hg hs hw hl hnew hbx
  refine callsIn_of_wp_marks Tryz.func41 rfl trivial ?_ rfl
  simp only [Tryz.ntmps41, List.size_toArray, List.length_cons, List.length_nil, Nat.reduceAdd, Nat.reduceSub, Array.replicate_succ, Array.replicate_zero, List.push_toArray, List.append_toArray, List.nil_append, List.cons_append]
  gi_wp2_with (first
    | ((with_reducible refine wpListIn_selR 12 ?_); refine wpListIn_valW rfl (r_loadAt 60 (.tmp 11) _ _ rfl rfl (load89 HBX.out)) ?_)
    | ((refine (callsIn_wide.2 (walk118 _ _ _ _ _ _ _ _ _ _ _)).mono ?_); rintro e w' ⟨rfl, rfl⟩))
  obtain ⟨W1, hW1⟩ : ∃ W1, (w.alloc (.cells #[.slice At t.length ct, .slice Ar R.length cr, .map (some bm), .slice Al (pairs t R g).length cl] 66)).alloc (.cells #[.slice none 0 0] 39) = W1 := ⟨_, rfl⟩
  have hs1 : W1.heap.size = w.heap.size + 2 := by rw [← hW1]; simp
  have hb1 : Below w.heap.size w W1 := by rw [← hW1]; exact ((Below.refl _ w).alloc (Nat.le_refl _) _).alloc (by simp) _
  have ho1 : W1.heap[w.heap.size + 1]? = some (.cells #[.slice none 0 0] 39 (0, 0)) := by rw [← hW1]; have := heap_alloc_new (w.alloc (.cells #[.slice At t.length ct, .slice Ar R.length cr, .map (some bm), .slice Al (pairs t R g).length cl] 66)) (.cells #[.slice none 0 0] 39); rwa [World.size_alloc] at this
  have hx1 := HBX.out
  rw [hW1] at hx1 ⊢
  obtain ⟨W0, hW0⟩ : ∃ W0, allocs W1 [.cells #[.slice At t.length ct, .slice Ar R.length cr] 60, .cells #[.int .i64 (r : Int)] 3, .cells #[.slice Aw ws.length cw] 39] = W0 := ⟨_, rfl⟩
  have hs0 : W0.heap.size = w.heap.size + 5 := by rw [← hW0]; simp [allocs, hs1]
  have hb0 : Below W1.heap.size W1 W0 := by rw [← hW0]; exact allocs_below _ _ _ (Nat.le_refl _)
  have hg0 : ∀ (i : Nat) (o : Obj), [Obj.cells #[.slice At t.length ct, .slice Ar R.length cr] 60, .cells #[.int .i64 (r : Int)] 3, .cells #[.slice Aw ws.length cw] 39][i]? = some o → W0.heap[w.heap.size + 2 + i]? = some o := fun i o h => by rw [← hW0, ← hs1]; exact allocs_get _ W1 i o h
  have hst : WkSt w W0 (w.heap.size + 4) (w.heap.size + 3) (w.heap.size + 2) (.slice Aw ws.length cw) (.slice At t.length ct) (.slice Ar R.length cr) r :=
    ⟨hb1.trans (hb0.mono (by omega)), hg0 2 _ rfl, hg0 0 _ rfl, hg0 1 _ rfl⟩
  have hrw : RwSt w #[.slice At t.length ct, .slice Ar R.length cr, .map (some bm), .slice Al (pairs t R g).length cl] W0.heap.size [] W0 :=
    ⟨hst.below, (hb0.block _ (by omega)).trans hx1, none, 0, (hb0.block _ (by omega)).trans ho1, World.ownsRow_nil _ _ _ _⟩
  rw [hW0, show w.heap.size + 1 + 1 + 2 = w.heap.size + 4 from rfl, show w.heap.size + 1 + 1 + 1 = w.heap.size + 3 from rfl, show w.heap.size + 1 + 1 = w.heap.size + 2 from rfl]
  have HST := Lib.hid hst
  have HRW := Lib.hid hrw
  clear hW1 hb1 ho1 hx1 hW0 hb0 hg0 hst hrw HBX
  refine wpIn_rangeWalk (gf := 93) (lb := #[.pointer (some ⟨w.heap.size + 4, 0, none⟩), .pointer (some ⟨w.heap.size + 3, 0, none⟩), .pointer (some ⟨w.heap.size + 2, 0, none⟩)]) rfl (enters_of Tryz.func93 (by kernel_rfl) rfl)
    (encs := encW t ws r) (S := WkS w (w.heap.size + 4) (w.heap.size + 3) (w.heap.size + 2)) ws.length (w.heap.size + 1) (w.heap.size + 3) (by omega) (by omega) (fun k hk => by unfold WkS at hk; omega) (fun _ => rfl)
    (fun l J W hb hJa hJs hY h0 => walk145 (n - 1) l _ _ _ J W w _ _ _ _ _ g t ws r (HST.out.below' hb) (by omega) HSY.out.tab HW.out HG.out HSD.out HL.out hr hJa hJs hY h0)
    (fun k W => RwSt w #[.slice At t.length ct, .slice Ar R.length cr, .map (some bm), .slice Al (pairs t R g).length cl] W0.heap.size (rwTo t R g ws r k).2 W)
    (fun k A B h hb => h.below' hb) (fun k A v h hc => h.other (w.heap.size + 3) (by omega) ⟨rfl, rfl, rfl, by simp [World.setCell]⟩ (fun k hk => Below.heap_setCell A ⟨w.heap.size + 3, 0, none⟩ v k hk) (.inl (by omega)))
    (fun k A l o o' h hl ho hn => h.other l (by omega) ⟨rfl, rfl, rfl, by simp⟩ (fun k hk => World.putObj_heap_other hk) (.inr ⟨o, ho, hn⟩))
    HRW.out (fun k => bare76 w.heap.size (.agg #[.slice At t.length ct, .slice Ar R.length cr, .map (some bm), .slice Al (pairs t R g).length cl]) (.slice Aw ws.length cw) (.agg #[.slice At t.length ct, .slice Ar R.length cr]) r
      (.func (.func 93) #[] #[.pointer (some ⟨w.heap.size + 4, 0, none⟩), .pointer (some ⟨w.heap.size + 3, 0, none⟩), .pointer (some ⟨w.heap.size + 2, 0, none⟩)]) (runTo t ws r k) (ws.getD k 0) (runTo t ws r k) (ws.getD k 0)) ?assign ?body ?done
  case assign =>
    rintro l k W K hK
    simp only [encW]
    gi_wp2_with (rw [Oper.semAt_eq _ _ _ (fun c h => by cases h)]; go_simp)
    exact hK
  case body =>
    rintro l k W hRW hk hsz
    have hrk := runTo_lt HG.out HSD.out HL.out hr k (by omega)
    have hx := HL.out.at_ hk
    have hsucc := rwTo_succ t R g ws r k
    have hlen2 := rwTo_len t R g ws r k
    have hbd := letN_bd HG.out HSD.out R hrk hx
    have hg16 := HG.out.g16
    obtain ⟨c, hc, hcol, hat, hlt2⟩ := stepW_at HG.out HSD.out hrk hx
    have hrowl := HG.out.len _ hrk
    have hn2 := HG.out.n2
    have hnum : ∀ (W' : World) (r' j : Nat), r' < t.length → j < g → Below w.heap.size w W' → Calls Tryz.prog 72 #[.agg #[.map (some bm), .slice Al (pairs t R g).length cl], .int .i64 (r' : Int), .int .i64 ((j + 1 : Nat) : Int)] W' fun e w' => e = .returned (.int .i64 (number t R g r' j)) ∧ Below W'.heap.size W' w' := fun W' r' j hr' hj hb => by
      have := number119_any W' bm Al (pairs t R g).length cl (pairs t R g) r' j ((HSY.out.below hb).map) ⟨by omega, by omega⟩
      unfold pairs at this ⊢
      rwa [place_number hr' hj] at this
    have hstep : ∀ W', Below w.heap.size w W' → Calls Tryz.prog 25 #[.agg #[.slice At t.length ct, .slice Ar R.length cr], .int .i64 (runTo t ws r k : Int), .int .i64 (ws.getD k 0)] W' fun e w' => e = .returned (.int .i64 (stepW t (runTo t ws r k) (ws.getD k 0) : Int)) ∧ Below W'.heap.size W' w' := fun W' hb => by
      rw [← hat]
      exact step70_any W' _ Ar R.length cr t _ _ c (kept_tab.below HSY.out.tab hb) hrk (by rw [hrowl]; exact hc) hcol ⟨by omega, by omega⟩
    have hletN : letN t R g (runTo t ws r k) (ws.getD k 0) = if 0 < ws.getD k 0 then number t R g (runTo t ws r k) (ws.getD k 0 - 1).toNat else -number t R g (stepW t (runTo t ws r k) (ws.getD k 0)) (-ws.getD k 0 - 1).toNat := rfl
    have HRW := Lib.hid hRW
    have HSUCC := Lib.hid hsucc
    have HNUM := Lib.hid hnum
    have HSTEP := Lib.hid hstep
    have HLET := Lib.hid hletN
    clear hRW hsucc hnum hstep hletN hcol hat hrowl HST
    generalize rwTo t R g ws r (k + 1) = X' at *
    generalize rwTo t R g ws r k = X2 at *
    generalize letN t R g (runTo t ws r k) (ws.getD k 0) = N at *
    generalize stepW t (runTo t ws r k) (ws.getD k 0) = s at *
    generalize runTo t ws r k = rk at *
    generalize ws.getD k 0 = x at *
    obtain ⟨hx1, hx2, hx3⟩ := hx
    obtain ⟨hN1, hN2⟩ := hbd
    have hx4 : -1000 ≤ x := by omega
    have hx5 : x ≤ 1000 := by omega
    have HBX := Lib.hid (fun W' (hb : Below W.heap.size W W') => (hb.block _ (Array.getElem?_eq_some_iff.1 HRW.out.box).1).trans HRW.out.box)
    have HS0 := Lib.hid hs0
    clear hs0
    by_cases hp : 0 < x
    · have HN : Hid (∀ W', Below w.heap.size w W' → Calls Tryz.prog 72 #[.agg #[.map (some bm), .slice Al (pairs t R g).length cl], .int .i64 (rk : Int), .int .i64 x] W' fun e w' => e = .returned (.int .i64 N) ∧ Below W'.heap.size W' w') := Lib.hid fun W' hb => by
        have := HNUM.out W' rk (x - 1).toNat hrk (by omega) hb
        rw [show (((x - 1).toNat + 1 : Nat) : Int) = x by omega] at this
        rw [HLET.out, if_pos hp]
        exact this
      clear HNUM HSTEP HLET
      simp only [bare76]
      by_cases hN0 : N = 0
      · have d1 : (N != 0) = false := by simpa using hN0
        have HX : Hid (X'.2 = X2.2) := Lib.hid (by rw [HSUCC.out, if_neg (by simpa using hN0)])
        clear HSUCC hN0
        gi_wp2_with (first
          | ((with_reducible refine wpListIn_selR 21 ?_); refine wpListIn_valR rfl (fun c h => by cases h) (r_loadAt 64 (.tmp 20) _ _ rfl rfl (load93 (HBX.out W (Below.refl _ _)))) ?_)
          | (refine CallsIn.mono (show CallsIn Fence.wide _ _ _ _ _ _ from callsIn_wide.2 (HN.out W HRW.out.below)) ?_; rintro e W2 ⟨rfl, hb⟩
             have HB2 := Lib.hid hb
             clear hb)
          | (rw [Oper.semAt_eq _ _ _ (fun c h => by cases h)]; go_simp))
        exact ⟨Turned.of_below HB2.out, by show RwSt _ _ _ X'.2 _; rw [HX.out]; exact HRW.out.below' HB2.out⟩
      · have d1 : (N != 0) = true := by simpa using hN0
        have HX : Hid (X'.2 = X2.2 ++ [N]) := Lib.hid (by rw [HSUCC.out, if_pos (by simpa using hN0)])
        clear HSUCC hN0
        gi_wp2_with (first
          | ((with_reducible refine wpListIn_selR 21 ?_); refine wpListIn_valR rfl (fun c h => by cases h) (r_loadAt 64 (.tmp 20) _ _ rfl rfl (load93 (HBX.out W (Below.refl _ _)))) ?_)
          | (refine CallsIn.mono (show CallsIn Fence.wide _ _ _ _ _ _ from callsIn_wide.2 (HN.out W HRW.out.below)) ?_; rintro e W2 ⟨rfl, hb⟩
             have HB2 := Lib.hid hb
             obtain ⟨A, c, A', c', W3, hxc, happ, ⟨hyc, hyf⟩, htu, hrs⟩ := (HRW.out.below' hb).push (by have := HS0.out; omega) (Nat.le_trans hsz hb.size) (by omega) N
             have HAPP := Lib.hid happ
             have HTU := Lib.hid htu
             have HRS := Lib.hid hrs
             clear hb happ htu hrs)
          | ((with_reducible refine wpListIn_selR 41 ?_); refine wpListIn_valR rfl (fun c h => by cases h) (r_app (.tmp 38) (.tmp 40) 39 rfl rfl rfl HAPP.out) ?_)
          | (rw [Oper.semAt_eq _ _ _ (fun c h => by cases h)]; go_simp))
        exact ⟨(Turned.of_below HB2.out).trans HTU.out, by show RwSt _ _ _ X'.2 _; rw [HX.out]; exact HRS.out⟩
    · obtain ⟨M, hM1, hM2⟩ : ∃ M, M = number t R g s (-x - 1).toNat ∧ N = -M := ⟨_, rfl, by rw [HLET.out, if_neg hp]⟩
      have HN : Hid (∀ W', Below w.heap.size w W' → Calls Tryz.prog 72 #[.agg #[.map (some bm), .slice Al (pairs t R g).length cl], .int .i64 (s : Int), .int .i64 (-x)] W' fun e w' => ∃ v, e = .returned v ∧ v = .int .i64 M ∧ Below W'.heap.size W' w') := Lib.hid fun W' hb => by
        have := HNUM.out W' s (-x - 1).toNat hlt2 (by omega) hb
        rw [show (((-x - 1).toNat + 1 : Nat) : Int) = -x by omega, ← hM1] at this
        exact this.mono fun e w' ⟨h1, h2⟩ => ⟨_, h1, rfl, h2⟩
      have HST2 : Hid (∀ W', Below w.heap.size w W' → Calls Tryz.prog 25 #[.agg #[.slice At t.length ct, .slice Ar R.length cr], .int .i64 (rk : Int), .int .i64 x] W' fun e w' => ∃ v, e = .returned v ∧ v = .int .i64 (s : Int) ∧ Below W'.heap.size W' w') :=
        Lib.hid fun W' hb => (HSTEP.out W' hb).mono fun e w' ⟨h1, h2⟩ => ⟨_, h1, rfl, h2⟩
      clear HNUM HSTEP HLET hM1
      simp only [bare76]
      gi_wp2_with (rw [Oper.semAt_eq _ _ _ (fun c h => by cases h)]; go_simp)
      refine wpIn_region_tail (by kernel_rfl) 25 10 (tailed_of (by kernel_rfl)) (fun w' => Below W.heap.size W w')
        (fun q v _ => v = [Value.pointer (some ⟨w.heap.size, 2, none⟩), .agg #[.map (some bm), .slice Al (pairs t R g).length cl], .pointer (some ⟨w.heap.size, 0, none⟩), .agg #[.slice At t.length ct, .slice Ar R.length cr], .int .i64 (rk : Int), .int .i64 x, .int .i64 (s : Int), .int .i64 x, .int .i64 (-x), .int .i64 M].getD q undef)
        (fun w w' => Below w.heap.size w w') (fun _ _ _ _ _ h => h) (Nat.le_of_ble_eq_true rfl) (Below.refl _ _).drew ?_ ?_
      · intro q o a w4 hq ho hS hsame hpre
        have hcases : q = 0 ∨ q = 1 ∨ q = 2 ∨ q = 3 ∨ q = 4 ∨ q = 5 ∨ q = 6 ∨ q = 7 ∨ q = 8 ∨ q = 9 := by omega
        rcases hcases with rfl | rfl | rfl | rfl | rfl | rfl | rfl | rfl | rfl | rfl
        · obtain rfl := Option.some.inj ho; exact ⟨rfl, rfl, (by exact wpR_val (fun c h => by cases h) (r_fld (.tmp 3) _ rfl (hsame.out 3 (.inl (by decide))) (fld95_1 _ _)) ⟨_, rfl, hS, Below.refl _ _, rfl⟩)⟩
        · obtain rfl := Option.some.inj ho; exact ⟨rfl, rfl, (by exact wpR_val (fun c h => by cases h) (r_loadAt 64 (.tmp 25) _ _ rfl (hpre ⟨0, .data⟩ (by simp) rfl) (load93 (HBX.out _ hS))) ⟨_, rfl, hS, Below.refl _ _, rfl⟩)⟩
        · obtain rfl := Option.some.inj ho; exact ⟨rfl, rfl, (by exact wpR_val (fun c h => by cases h) (r_fld (.tmp 3) _ rfl (hsame.out 3 (.inl (by decide))) (fld95_0 _ _)) ⟨_, rfl, hS, Below.refl _ _, rfl⟩)⟩
        · obtain rfl := Option.some.inj ho; exact ⟨rfl, rfl, (by exact wpR_val (fun c h => by cases h) (r_loadAt 60 (.tmp 27) _ _ rfl (hpre ⟨2, .data⟩ (by simp) rfl) (load89 (HBX.out _ hS))) ⟨_, rfl, hS, Below.refl _ _, rfl⟩)⟩
        · obtain rfl := Option.some.inj ho; exact ⟨rfl, rfl, (by exact wpR_val (fun c h => by cases h) (r_move (.tmp 8) rfl (hsame.out 8 (.inl (by decide)))) ⟨_, rfl, hS, Below.refl _ _, rfl⟩)⟩
        · obtain rfl := Option.some.inj ho; exact ⟨rfl, rfl, (by exact wpR_val (fun c h => by cases h) (r_move (.tmp 9) rfl (hsame.out 9 (.inl (by decide)))) ⟨_, rfl, hS, Below.refl _ _, rfl⟩)⟩
        · obtain rfl := Option.some.inj ho; exact ⟨rfl, rfl, (by exact wpR_call (fun c h => by cases h) (r_call3 (.tmp 28) (.tmp 29) (.tmp 30) _ _ _ _ rfl (hpre ⟨3, .data⟩ (by simp) rfl) (hpre ⟨4, .data⟩ (by simp) rfl) (hpre ⟨5, .data⟩ (by simp) rfl) call70) (HST2.out w4 (HRW.out.below.trans (hS.mono HRW.out.below.size))) (fun v w'' h => ⟨v, rfl, hS.trans (h.2.mono hS.size), h.2, h.1⟩))⟩
        · obtain rfl := Option.some.inj ho; exact ⟨rfl, rfl, (by exact wpR_val (fun c h => by cases h) (r_move (.tmp 9) rfl (hsame.out 9 (.inl (by decide)))) ⟨_, rfl, hS, Below.refl _ _, rfl⟩)⟩
        · obtain rfl := Option.some.inj ho; exact ⟨rfl, rfl, (by exact wpR_val (fun c h => by cases h) (r_neg (.tmp 32) x rfl (hpre ⟨7, .data⟩ (by simp) rfl) ⟨by omega, by omega⟩) ⟨_, rfl, hS, Below.refl _ _, rfl⟩)⟩
        · obtain rfl := Option.some.inj ho; exact ⟨rfl, rfl, (by exact wpR_call (fun c h => by cases h) (r_call3 (.tmp 26) (.tmp 31) (.tmp 33) _ _ _ _ rfl (hpre ⟨1, .data⟩ (by simp) rfl) (hpre ⟨6, .data⟩ (by simp) rfl) (hpre ⟨8, .data⟩ (by simp) rfl) call119) (HN.out w4 (HRW.out.below.trans (hS.mono HRW.out.below.size))) (fun v w'' h => ⟨v, rfl, hS.trans (h.2.mono hS.size), h.2, h.1⟩))⟩
      · intro a W2 hS hsame hsl
        have HB2 := Lib.hid hS
        have hfr := hsame.frame (Nat.le_of_ble_eq_true rfl)
        refine wpOpIn_of rfl rfl (wpR_val (fun c h => by cases h) (r_neg (.tmp 34) M rfl (hsl 9 (by omega)) ⟨by omega, by omega⟩) ?_)
        refine wpOpIn_of rfl rfl (wpR_val (fun c h => by cases h) (r_assign (.tmp 35) rfl (put_getD_same _ _ _ (by rw [hsame.size]; exact Nat.le_of_ble_eq_true rfl))) ?_)
        clear hS hsl
        generalize (fun i => a.tmps.getD (25 + i) undef) = vs at hfr
        subst hfr
        rw [← hM2]
        clear hM2
        simp only [Act.put, List.take_succ_cons, List.take_zero, List.drop_succ_cons, List.drop_zero, List.map_cons, List.map_nil, List.range, List.range.loop, List.cons_append, List.nil_append, List.setIfInBounds_toArray, Nat.reduceAdd]
        by_cases hN0 : N = 0
        · have d1 : (N != 0) = false := by simpa using hN0
          have HX : Hid (X'.2 = X2.2) := Lib.hid (by rw [HSUCC.out, if_neg (by simpa using hN0)])
          clear HSUCC hN0
          gi_wp2_with (rw [Oper.semAt_eq _ _ _ (fun c h => by cases h)]; go_simp)
          exact ⟨Turned.of_below HB2.out, by show RwSt _ _ _ X'.2 _; rw [HX.out]; exact HRW.out.below' HB2.out⟩
        · have d1 : (N != 0) = true := by simpa using hN0
          have HX : Hid (X'.2 = X2.2 ++ [N]) := Lib.hid (by rw [HSUCC.out, if_pos (by simpa using hN0)])
          clear HSUCC hN0
          obtain ⟨A, c, A', c', W3, hxc, happ, ⟨hyc, hyf⟩, htu, hrs⟩ := (HRW.out.below' HB2.out).push (by have := HS0.out; omega) (Nat.le_trans hsz HB2.out.size) (by omega) N
          have HAPP := Lib.hid happ
          have HTU := Lib.hid htu
          have HRS := Lib.hid hrs
          clear happ htu hrs
          gi_wp2_with (first
            | ((with_reducible refine wpListIn_selR 41 ?_); refine wpListIn_valR rfl (fun c h => by cases h) (r_app (.tmp 38) (.tmp 40) 39 rfl rfl rfl HAPP.out) ?_)
            | (rw [Oper.semAt_eq _ _ _ (fun c h => by cases h)]; go_simp))
          exact ⟨(Turned.of_below HB2.out).trans HTU.out, by show RwSt _ _ _ X'.2 _; rw [HX.out]; exact HRS.out⟩
  case done =>
    rintro D W hD hRW hDD
    obtain ⟨A, c, ho, hown⟩ := hRW.out
    have hob := (cell_of1 ho).1
    have hmild := rwTo_mild HG.out HSD.out R HL.out hr ws.length (Nat.le_refl _)
    have hlen2 := rwTo_len t R g ws r ws.length
    have HOB := Lib.hid hob
    have HRED := Lib.hid (reduce99_any W (.slice A (rwTo t R g ws r ws.length).2.length c) (rwTo t R g ws r ws.length).2 (OwnI.ints hown (Mild.fits hmild)) hmild (by omega))
    have HRWE : Hid (rwW t R g r ws = red (rwTo t R g ws r ws.length).2) := Lib.hid rfl
    have HRS := Lib.hid hRW.below
    have HDD := Lib.hid hDD
    clear hmild hown ho hRW hob hDD
    generalize (rwTo t R g ws r ws.length).2 = X at *
    have hob := HOB.out
    gi_wp2_with ((refine (callsIn_wide.2 HRED.out).mono ?_); rintro e w' ⟨A', c', rfl, h1, h2⟩)
    have hDD2 := (h2.block D (Array.getElem?_eq_some_iff.1 HDD.out).1).trans HDD.out
    refine ⟨by simp, .inl ⟨_, _, rfl, run_takeDeferred hDD2, ?_⟩⟩
    refine ⟨_, results_tmp rfl _ _ _, ?_⟩
    rw [HRWE.out]
    have hkk : ∀ k, k ≠ D → (w'.putObj D (.deferred none)).heap[k]? = w'.heap[k]? := fun k hk => World.putObj_heap_other hk
    refine ⟨A', c', rfl, owns_base (owns_keep h1 fun r hr' => hkk r fun e => ?_) HRS.out.size, (HRS.out.trans (h2.mono HRS.out.size)).trans ⟨rfl, rfl, rfl, by simp, fun k hk => hkk k (by omega)⟩⟩
    obtain ⟨-, C, hC⟩ := owns_block h1 r hr'
    rw [e, hDD2] at hC
    cases hC
end Go.Proofs
namespace Go.Proofs
open Go.RowKit Go.Shelf Go.Proofs.Ct Go.Maps
def letBad (g : Nat) (x : Int) : Bool := decide (x = 0) || decide (x < -(g : Int)) || decide ((g : Int) < x)
theorem letsOk_of {g : Nat} {w : List Int} (h : w.any (letBad g) = false) : LetsOk g w := fun x hx => by
  have := List.any_eq_false.1 h x hx
  unfold letBad at this
  simp at this
  omega
def rewE (g : Int) (t : Tb) (fr : Int) (w : List Int) : List Int × Int :=
  if (repsE g t).2 ≠ 0 then ([], (repsE g t).2) else
  if (decide (fr < 0) || decide ((t.length : Int) ≤ fr) || w.any (letBad g.toNat)) = true then ([], 2) else
  if 4000 < w.length then ([], 4) else (rwW t (reps t) g.toNat fr.toNat w, 0)
def RewPost (g : Int) (t : Tb) (fr : Int) (ws : List Int) (w : World) (e : Ending) (w' : World) : Prop := (∃ u, e = .returned (.tuple #[u, .int .i64 (rewE g t fr ws).2]) ∧ IntsAt w' u (rewE g t fr ws).1) ∧ Below w.heap.size w w'
theorem pred75 (g B : Nat) (w : World) (hg : g ≤ 16) (hc : w.cell? ⟨B, 0, none⟩ = some (.int .i64 (g : Int))) :
    PredW 43 #[.pointer (some ⟨B, 0, none⟩)] (fun x => -9223372036854775808 ≤ x ∧ x ≤ 9223372036854775807) (letBad g) w := fun x q hx => by
  have hcq : (w.drewN q).cell? ⟨B, 0, none⟩ = some (.int .i64 (g : Int)) := hc
  show Calls Tryz.prog 43 #[.int .i64 x, .pointer (some ⟨B, 0, none⟩)] (w.drewN q) _
  have h0 : letBad g x = (decide (x = 0) || decide (x < -(g : Int)) || decide ((g : Int) < x)) := rfl
  have H0 := Lib.hid h0
  clear h0
  generalize hW : w.drewN q = W at *
  have HW := Lib.hid hW
  clear hW
  have hg0 : (0 : Int) ≤ (g : Int) := Int.natCast_nonneg _
  have hg1 : (g : Int) ≤ 16 := by omega
  by_cases h1 : x = 0
  · subst h1
    go_enter Tryz.func43, Tryz.ntmps43
    go_wp2_with fail
    go_ret
    exact ⟨ret_bool (by rw [H0.out]; simp), q, HW.out.symm⟩
  · have d1 : (x == 0) = false := by simpa using h1
    by_cases h2 : x < -(g : Int)
    · go_enter Tryz.func43, Tryz.ntmps43
      go_wp2_with fail
      go_ret
      exact ⟨ret_bool (by rw [H0.out]; simp [h2]), q, HW.out.symm⟩
    · by_cases h3 : (g : Int) < x
      · go_enter Tryz.func43, Tryz.ntmps43
        go_wp2_with fail
        go_ret
        exact ⟨ret_bool (by rw [H0.out]; simp [h3]), q, HW.out.symm⟩
      · go_enter Tryz.func43, Tryz.ntmps43
        go_wp2_with fail
        go_ret
        exact ⟨ret_bool (by rw [H0.out]; simp [h1, h2, h3]), q, HW.out.symm⟩
theorem eg75 : ∀ args w, (callFunc 43 args).run Tryz.prog w = .ok (.enter 43 args) w := enters_of Tryz.func43 (by kernel_rfl) rfl
set_option maxRecDepth 100000 in
set_option maxHeartbeats 1000000 in
theorem rewrite20_bad (w : World) (v u : Value) (g fr : Int) (t : Tb) (ws : List Int) (ht : Tab w v t) (hu : IntsAt w u ws) (he : (repsE g t).2 ≠ 0) : Calls Tryz.prog 16 #[.int .i64 g, v, .int .i64 fr, u] w (RewPost g t fr ws w) := by
  have hb0 : Below w.heap.size w (w.alloc (.cells #[.int .i64 g] 3)) := (Below.refl _ _).alloc (Nat.le_refl _) _
  have HC := Lib.hid (of68_bad (w.alloc (.cells #[.int .i64 g] 3)) v g t (kept_tab.below ht hb0) he)
  have HE : Hid (rewE g t fr ws = ([], (repsE g t).2)) := Lib.hid (by unfold rewE; rw [if_pos he])
  have d1 : ((repsE g t).2 != 0) = true := by simpa using he
  have HB0 := Lib.hid hb0
  obtain ⟨A, c, rfl⟩ := Tab.form ht
  obtain ⟨Au, cu, rfl, -, -, -⟩ := hu.open_
  generalize (repsE g t).2 = x at *
  clear ht he hu hb0
  go_enter Tryz.func16, Tryz.ntmps16
  go_wp2_with (first
    | (go_at_call 24; (refine HC.out.mono ?_); rintro e w1 ⟨rfl, hb⟩
       have HN1 := Lib.hid (heap_alloc_new w1 (.cells zero95 66))
       have HB1 := Lib.hid (HB0.out.trans (hb.mono HB0.out.size))
       clear hb)
    | ((with_reducible refine wpList_sel 10 ?_); refine wpList_val rfl (r_alloc95 rfl) ?_; refine wpList_skip rfl (r_store95 (.tmp 10) (.tmp 16) rfl w1.heap.size zero95 zero95 rfl rfl HN1.out rfl rfl zero95_one) ?_))
  go_ret2
  exact ⟨⟨.slice none 0 0, ret_of2 rfl (by rw [HE.out]), by rw [HE.out]; exact intsAt_nil⟩, below_boxed HB1.out _ _⟩
theorem rwW_mild {g : Nat} {t : Tb} (hg : TGood g t) (hs : Std t) (R : List W) {w : List Int} (hw : LetsOk g w) {r : Nat} (hr : r < t.length) : ∀ z ∈ rwW t R g r w, Mild z := fun z hz =>
  rwTo_mild hg hs R hw hr w.length (Nat.le_refl _) z (redTo_mem (Nat.le_refl _) hz)
set_option maxRecDepth 100000 in
set_option maxHeartbeats 2000000 in
theorem rewrite20_good (w : World) (v u : Value) (g : Nat) (fr : Int) (t : Tb) (ws : List Int) (ht : Tab w v t) (hu : IntsAt w u ws) (hg : TGood g t) (hstd : std t 0 = some t) : Calls Tryz.prog 16 #[.int .i64 (g : Int), v, .int .i64 fr, u] w (RewPost g t fr ws w) := by
  have hck := check_of_good hg
  have hre : repsE g t = (reps t, 0) := by unfold repsE; rw [hck, if_neg (by simp), if_pos hstd]
  have hb0 : Below w.heap.size w (w.alloc (.cells #[.int .i64 (g : Int)] 3)) := (Below.refl _ _).alloc (Nat.le_refl _) _
  have HC := Lib.hid (of68_good (w.alloc (.cells #[.int .i64 (g : Int)] 3)) v g t (kept_tab.below ht hb0) hg hstd)
  have HE : Hid (rewE g t fr ws = if (decide (fr < 0) || decide ((t.length : Int) ≤ fr) || ws.any (letBad g)) = true then ([], 2) else if 4000 < ws.length then ([], 4) else (rwW t (reps t) g fr.toNat ws, 0)) := Lib.hid (by
    unfold rewE; rw [hre, if_neg (by simp)]; rfl)
  have hg16 := hg.g16
  have hnew0 := heap_alloc_new w (.cells #[.int .i64 (g : Int)] 3)
  have hlt0 : w.heap.size < (w.alloc (.cells #[.int .i64 (g : Int)] 3)).heap.size := by simp
  have hany : ∀ W, Below (w.alloc (.cells #[.int .i64 (g : Int)] 3)).heap.size (w.alloc (.cells #[.int .i64 (g : Int)] 3)) W →
      Calls Tryz.prog 42 #[u, .func (.func 43) #[] #[.pointer (some ⟨w.heap.size, 0, none⟩)]] W fun e w' => e = .returned (.bool (ws.any (letBad g))) ∧ ∃ q, w' = W.drewN q := fun W hb =>
    has74_any 43 _ _ _ W eg75 (pred75 g w.heap.size W hg16 (cell_of1 ((hb.block _ hlt0).trans hnew0)).1) u ws (kept_ints.below (kept_ints.below hu hb0) hb) (fun x hx => hu.2 x hx)
  have HANY := Lib.hid hany
  have HB0 := Lib.hid hb0
  have HG := Lib.hid hg
  have HSTD := Lib.hid (std_iff hstd)
  have HU := Lib.hid hu
  obtain ⟨A, c, rfl⟩ := Tab.form ht
  obtain ⟨Au, cu, rfl, hu1, hu2, -⟩ := hu.open_
  clear ht hstd hck hre hg hu hb0 hnew0 hlt0 hany
  generalize hany : ws.any (letBad g) = b at *
  have HANYB := Lib.hid hany
  clear hany
  by_cases h1 : fr < 0
  · have HZ : Hid (rewE g t fr ws = ([], 2)) := Lib.hid (by rw [HE.out, if_pos (by simp [h1])])
    go_enter Tryz.func16, Tryz.ntmps16
    go_wp2_with (first
      | (go_at_call 24; (refine HC.out.mono ?_); rintro e w1 ⟨⟨vr, bm, vl, rfl, hS⟩, hb⟩
         obtain ⟨Ar, cr, rfl⟩ := Tab.form hS.reps
         obtain ⟨base, hl⟩ := hS.list
         obtain ⟨Al, cl, rfl⟩ := OwnP.form hl
         have HN1 := Lib.hid (heap_alloc_new w1 (.cells zero95 66))
         have HB1 := Lib.hid hb
         have HS := Lib.hid hS
         clear hb hS hl)
      | ((with_reducible refine wpList_sel 10 ?_); refine wpList_val rfl (r_alloc95 rfl) ?_; refine wpList_skip rfl (r_store95 (.tmp 10) (.tmp 16) rfl w1.heap.size zero95 #[.slice A t.length c, .slice Ar (reps t).length cr, .map (some bm), .slice Al (pairs t (reps t) g).length cl] rfl rfl HN1.out rfl rfl (one95 _ _ _ _ _ _ _ _ _ _)) ?_)
    )
    go_ret2
    exact ⟨⟨.slice none 0 0, ret_of2 rfl (by rw [HZ.out]), by rw [HZ.out]; exact intsAt_nil⟩, (HB0.out.trans ((below_boxed HB1.out _ _).mono HB0.out.size))⟩
  · by_cases h2 : (t.length : Int) ≤ fr
    · have HZ : Hid (rewE g t fr ws = ([], 2)) := Lib.hid (by rw [HE.out, if_pos (by simp [h2])])
      go_enter Tryz.func16, Tryz.ntmps16
      go_wp2_with (first
        | (go_at_call 24; (refine HC.out.mono ?_); rintro e w1 ⟨⟨vr, bm, vl, rfl, hS⟩, hb⟩
           obtain ⟨Ar, cr, rfl⟩ := Tab.form hS.reps
           obtain ⟨base, hl⟩ := hS.list
           obtain ⟨Al, cl, rfl⟩ := OwnP.form hl
           have HN1 := Lib.hid (heap_alloc_new w1 (.cells zero95 66))
           have HB1 := Lib.hid hb
           have HS := Lib.hid hS
           clear hb hS hl)
        | ((with_reducible refine wpList_sel 10 ?_); refine wpList_val rfl (r_alloc95 rfl) ?_; refine wpList_skip rfl (r_store95 (.tmp 10) (.tmp 16) rfl w1.heap.size zero95 #[.slice A t.length c, .slice Ar (reps t).length cr, .map (some bm), .slice Al (pairs t (reps t) g).length cl] rfl rfl HN1.out rfl rfl (one95 _ _ _ _ _ _ _ _ _ _)) ?_)
      )
      go_ret2
      exact ⟨⟨.slice none 0 0, ret_of2 rfl (by rw [HZ.out]), by rw [HZ.out]; exact intsAt_nil⟩, (HB0.out.trans ((below_boxed HB1.out _ _).mono HB0.out.size))⟩
    · cases b with
      | true =>
        have HZ : Hid (rewE g t fr ws = ([], 2)) := Lib.hid (by rw [HE.out, if_pos (by simp)])
        go_enter Tryz.func16, Tryz.ntmps16
        go_wp2_with (first
          | (go_at_call 24; (refine HC.out.mono ?_); rintro e w1 ⟨⟨vr, bm, vl, rfl, hS⟩, hb⟩
             obtain ⟨Ar, cr, rfl⟩ := Tab.form hS.reps
             obtain ⟨base, hl⟩ := hS.list
             obtain ⟨Al, cl, rfl⟩ := OwnP.form hl
             have HN1 := Lib.hid (heap_alloc_new w1 (.cells zero95 66))
             have HB1 := Lib.hid hb
             have HS := Lib.hid hS
             clear hb hS hl)
          | ((with_reducible refine wpList_sel 10 ?_); refine wpList_val rfl (r_alloc95 rfl) ?_; refine wpList_skip rfl (r_store95 (.tmp 10) (.tmp 16) rfl w1.heap.size zero95 #[.slice A t.length c, .slice Ar (reps t).length cr, .map (some bm), .slice Al (pairs t (reps t) g).length cl] rfl rfl HN1.out rfl rfl (one95 _ _ _ _ _ _ _ _ _ _)) ?_)
          | (go_at_call 42; (refine (HANY.out _ (below_boxed HB1.out _ _)).mono ?_); rintro e w2 ⟨rfl, q, rfl⟩))
        go_ret2
        exact ⟨⟨.slice none 0 0, ret_of2 rfl (by rw [HZ.out]), by rw [HZ.out]; exact intsAt_nil⟩, (below_drewN (HB0.out.trans ((below_boxed HB1.out _ _).mono HB0.out.size)) _)⟩
      | false =>
        by_cases h4 : 4000 < ws.length
        · have h4' : (4000 : Int) < (ws.length : Int) := by omega
          have HZ : Hid (rewE g t fr ws = ([], 4)) := Lib.hid (by rw [HE.out, if_neg (by simp; omega), if_pos h4])
          clear h4
          go_enter Tryz.func16, Tryz.ntmps16
          go_wp2_with (first
            | (go_at_call 24; (refine HC.out.mono ?_); rintro e w1 ⟨⟨vr, bm, vl, rfl, hS⟩, hb⟩
               obtain ⟨Ar, cr, rfl⟩ := Tab.form hS.reps
               obtain ⟨base, hl⟩ := hS.list
               obtain ⟨Al, cl, rfl⟩ := OwnP.form hl
               have HN1 := Lib.hid (heap_alloc_new w1 (.cells zero95 66))
               have HB1 := Lib.hid hb
               have HS := Lib.hid hS
               clear hb hS hl)
            | ((with_reducible refine wpList_sel 10 ?_); refine wpList_val rfl (r_alloc95 rfl) ?_; refine wpList_skip rfl (r_store95 (.tmp 10) (.tmp 16) rfl w1.heap.size zero95 #[.slice A t.length c, .slice Ar (reps t).length cr, .map (some bm), .slice Al (pairs t (reps t) g).length cl] rfl rfl HN1.out rfl rfl (one95 _ _ _ _ _ _ _ _ _ _)) ?_)
            | (go_at_call 42; (refine (HANY.out _ (below_boxed HB1.out _ _)).mono ?_); rintro e w2 ⟨rfl, q, rfl⟩))
          go_ret2
          exact ⟨⟨.slice none 0 0, ret_of2 rfl (by rw [HZ.out]), by rw [HZ.out]; exact intsAt_nil⟩, (below_drewN (HB0.out.trans ((below_boxed HB1.out _ _).mono HB0.out.size)) _)⟩
        · have h4' : ¬ (4000 : Int) < (ws.length : Int) := by omega
          have HZ : Hid (rewE g t fr ws = (rwW t (reps t) g fr.toNat ws, 0)) := Lib.hid (by rw [HE.out, if_neg (by simp; omega), if_neg h4])
          have h5 : fr.toNat < t.length := by omega
          have h6 : fr = ((fr.toNat : Nat) : Int) := by omega
          generalize fr.toNat = r at *
          subst h6
          have hlen : ws.length ≤ 100000 := by omega
          clear h4 HE
          go_enter Tryz.func16, Tryz.ntmps16
          go_wp2_with (first
            | (go_at_call 24; (refine HC.out.mono ?_); rintro e w1 ⟨⟨vr, bm, vl, rfl, hS⟩, hb⟩
               obtain ⟨Ar, cr, rfl⟩ := Tab.form hS.reps
               obtain ⟨base, hl⟩ := hS.list
               obtain ⟨Al, cl, rfl⟩ := OwnP.form hl
               have HN1 := Lib.hid (heap_alloc_new w1 (.cells zero95 66))
               have HB1 := Lib.hid hb
               have HS := Lib.hid hS
               clear hb hS hl)
            | ((with_reducible refine wpList_sel 10 ?_); refine wpList_val rfl (r_alloc95 rfl) ?_; refine wpList_skip rfl (r_store95 (.tmp 10) (.tmp 16) rfl w1.heap.size zero95 #[.slice A t.length c, .slice Ar (reps t).length cr, .map (some bm), .slice Al (pairs t (reps t) g).length cl] rfl rfl HN1.out rfl rfl (one95 _ _ _ _ _ _ _ _ _ _)) ?_)
            | (go_at_call 42; (refine (HANY.out _ (below_boxed HB1.out _ _)).mono ?_); rintro e w2 ⟨rfl, q, rfl⟩)
            | ((with_reducible refine wpList_sel 38 ?_); refine wpList_val rfl (r_load95 (.tmp 10) w1.heap.size (.slice A t.length c) (.slice Ar (reps t).length cr) (.map (some bm)) (.slice Al (pairs t (reps t) g).length cl) rfl rfl (setRow_heap (w1.alloc (.cells zero95 66)) w1.heap.size zero95 _ 66 (0, 0) HN1.out)) ?_)
            | (go_at_call 41; (refine (callsIn_wide.1 (rewrite76_in 0 _ _ _ bm _ _ g t (reps t) r ws (HS.out.below (below_drewN (below_boxed (Below.refl _ _) _ _) _)) HG.out HSTD.out h5 (kept_ints.below HU.out (below_drewN (HB0.out.trans ((below_boxed HB1.out _ _).mono HB0.out.size)) _)) (letsOk_of HANYB.out) hlen)).mono ?_); rintro e w3 ⟨A', c', rfl, ho, hb⟩
               have HO := Lib.hid ho
               have HB3 := Lib.hid ((below_drewN (HB0.out.trans ((below_boxed HB1.out _ _).mono HB0.out.size)) q).trans (hb.mono (below_drewN (HB0.out.trans ((below_boxed HB1.out _ _).mono HB0.out.size)) q).size))
               clear ho hb))
          go_ret2
          exact ⟨⟨_, ret_of2 rfl (by rw [HZ.out]), by rw [HZ.out]; exact OwnI.ints HO.out (Mild.fits (rwW_mild HG.out HSTD.out (reps t) (letsOk_of HANYB.out) h5))⟩, HB3.out⟩
theorem rewrite20_any (w : World) (v u : Value) (g fr : Int) (t : Tb) (ws : List Int) (ht : Tab w v t) (hu : IntsAt w u ws) : Calls Tryz.prog 16 #[.int .i64 g, v, .int .i64 fr, u] w (RewPost g t fr ws w) := by
  by_cases he : (repsE g t).2 = 0
  · obtain ⟨gn, rfl, hg, hstd, -⟩ := repsE_good he
    exact rewrite20_good w v u gn fr t ws ht hu hg hstd
  · exact rewrite20_bad w v u g fr t ws ht hu he
theorem gens18_any (w : World) (v : Value) (g : Int) (t : Tb) (ht : Tab w v t) : Calls Tryz.prog 9 #[.int .i64 g, v] w (GensPost g t w) := by
  by_cases he : (repsE g t).2 = 0
  · obtain ⟨gn, rfl, hg, hstd, -⟩ := repsE_good he
    exact gens18_good w v gn t ht hg hstd
  · exact gens18_bad w v g t ht he
end Go.Proofs
namespace Go.Proofs
open Go.RowKit Go.Shelf Go.Proofs.Ct Go.Maps
def presBad (g : Nat) (rels : List W) (k : Nat) : Int := if 4000 < sumTo rels (k + 1) then 4 else if (rels.getD k []).any (letBad g) = true then 2 else 0
def presE (g : Int) (rels : List W) : Int :=
  if g < 1 ∨ 16 < g then 2 else if 100 < rels.length then 4 else
  match first (fun k => decide (presBad g.toNat rels k ≠ 0)) rels.length with
  | some k => presBad g.toNat rels k
  | none => 0
theorem presE_some {g : Nat} {rels : List W} (hg : 1 ≤ g ∧ g ≤ 16) (hl : rels.length ≤ 100) {k : Nat} (hk : k < rels.length) (hz : ∀ j, j < k → presBad g rels j = 0) (hb : presBad g rels k ≠ 0) : presE g rels = presBad g rels k := by
  unfold presE
  rw [if_neg (by omega), if_neg (by omega), first_some hk (by simpa using hb) (fun j hj => by simpa using hz j hj)]
  rfl
theorem presE_none {g : Nat} {rels : List W} (hg : 1 ≤ g ∧ g ≤ 16) (hl : rels.length ≤ 100) (hz : ∀ j, j < rels.length → presBad g rels j = 0) : presE g rels = 0 := by
  unfold presE
  rw [if_neg (by omega), if_neg (by omega), first_none (fun j hj => by simpa using hz j hj)]
theorem pred121 (g B : Nat) (vr : Value) (w : World) (hg : g ≤ 16) (hc : w.cell? ⟨B, 0, none⟩ = some (.int .i64 (g : Int))) (_hc1 : w.cell? ⟨B, 1, none⟩ = some vr) :
    PredW 60 #[.pointer (some ⟨B, 0, none⟩)] (fun x => -9223372036854775808 ≤ x ∧ x ≤ 9223372036854775807) (letBad g) w := fun x q hx => by
  have hcq : (w.drewN q).cell? ⟨B, 0, none⟩ = some (.int .i64 (g : Int)) := hc
  show Calls Tryz.prog 60 #[.int .i64 x, .pointer (some ⟨B, 0, none⟩)] (w.drewN q) _
  have h0 : letBad g x = (decide (x = 0) || decide (x < -(g : Int)) || decide ((g : Int) < x)) := rfl
  have H0 := Lib.hid h0
  clear h0
  generalize hW : w.drewN q = W at *
  have HW := Lib.hid hW
  clear hW
  have hg0 : (0 : Int) ≤ (g : Int) := Int.natCast_nonneg _
  have hg1 : (g : Int) ≤ 16 := by omega
  by_cases h1 : x = 0
  · subst h1
    go_enter Tryz.func60, Tryz.ntmps60
    go_wp2_with fail
    go_ret
    exact ⟨ret_bool (by rw [H0.out]; simp), q, HW.out.symm⟩
  · have d1 : (x == 0) = false := by simpa using h1
    by_cases h2 : x < -(g : Int)
    · go_enter Tryz.func60, Tryz.ntmps60
      go_wp2_with fail
      go_ret
      exact ⟨ret_bool (by rw [H0.out]; simp [h2]), q, HW.out.symm⟩
    · by_cases h3 : (g : Int) < x
      · go_enter Tryz.func60, Tryz.ntmps60
        go_wp2_with fail
        go_ret
        exact ⟨ret_bool (by rw [H0.out]; simp [h3]), q, HW.out.symm⟩
      · go_enter Tryz.func60, Tryz.ntmps60
        go_wp2_with fail
        go_ret
        exact ⟨ret_bool (by rw [H0.out]; simp [h1, h2, h3]), q, HW.out.symm⟩
theorem eg121 : ∀ args w, (callFunc 60 args).run Tryz.prog w = .ok (.enter 60 args) w := enters_of Tryz.func60 (by kernel_rfl) rfl
end Go.Proofs
namespace Go.Proofs
open Go.RowKit Go.Shelf Go.Proofs.Ct Go.Maps
def PresPost (g : Int) (rels : List W) (w : World) (e : Ending) (w' : World) : Prop := (∃ y, e = .returned (.tuple #[.int .i64 (presE g rels), .int .i64 y])) ∧ Below w.heap.size w w'
theorem presE_range {g : Int} {rels : List W} (h : g < 1 ∨ 16 < g) : presE g rels = 2 := by unfold presE; rw [if_pos h]
theorem presE_many {g : Int} {rels : List W} (h : ¬ (g < 1 ∨ 16 < g)) (h2 : 100 < rels.length) : presE g rels = 4 := by unfold presE; rw [if_neg h, if_pos h2]
theorem sumTo_succ (rels : List W) (k : Nat) : sumTo rels (k + 1) = sumTo rels k + (rels.getD k []).length := rfl
theorem presBad_long {g : Nat} {rels : List W} {k : Nat} (h : 4000 < sumTo rels (k + 1)) : presBad g rels k = 4 := by unfold presBad; rw [if_pos h]
theorem presBad_let {g : Nat} {rels : List W} {k : Nat} (h : ¬ 4000 < sumTo rels (k + 1)) (h2 : (rels.getD k []).any (letBad g) = true) : presBad g rels k = 2 := by unfold presBad; rw [if_neg h, if_pos h2]
theorem presBad_ok {g : Nat} {rels : List W} {k : Nat} (h : ¬ 4000 < sumTo rels (k + 1)) (h2 : (rels.getD k []).any (letBad g) = false) : presBad g rels k = 0 := by unfold presBad; rw [if_neg h, h2]; rfl
set_option maxRecDepth 100000 in
set_option maxHeartbeats 1000000 in
theorem pcheck78_any (w : World) (vr : Value) (g : Int) (rels : List W) (hR : Tab w vr rels) : Calls Tryz.prog 32 #[.agg #[.int .i64 g, vr]] w (PresPost g rels w) := by
  obtain ⟨Ar, cr, rfl, r1, r2, r3⟩ := hR.open_
  have hbel : Below w.heap.size w (w.alloc (.cells #[.int .i64 g, .slice Ar rels.length cr] 26)) := (Below.refl _ _).alloc (Nat.le_refl _) _
  have HBE := Lib.hid hbel
  have HR := Lib.hid r3
  have hnew := heap_alloc_new w (.cells #[.int .i64 g, .slice Ar rels.length cr] 26)
  have hn0 : (0 : Int) ≤ (rels.length : Int) := Int.natCast_nonneg _
  by_cases h1 : g < 1 ∨ 16 < g
  · have HZ := Lib.hid (presE_range (rels := rels) h1)
    clear hR r3 hbel hnew
    by_cases h2 : g < 1
    · clear h1
      go_enter Tryz.func32, Tryz.ntmps32
      go_wp2_with fail
      go_ret2
      exact ⟨⟨_, ret_pair HZ.out.symm rfl⟩, HBE.out⟩
    · have h3 : 16 < g := by omega
      clear h1
      go_enter Tryz.func32, Tryz.ntmps32
      go_wp2_with fail
      go_ret2
      exact ⟨⟨_, ret_pair HZ.out.symm rfl⟩, HBE.out⟩
  · obtain ⟨gn, rfl⟩ : ∃ gn : Nat, g = gn := ⟨g.toNat, by omega⟩
    have hg1 : ¬ (gn : Int) < 1 := by omega
    have hg2 : ¬ (16 : Int) < (gn : Int) := by omega
    by_cases h4 : 100 < rels.length
    · have h4' : (100 : Int) < (rels.length : Int) := by omega
      have HZ := Lib.hid (presE_many (rels := rels) h1 h4)
      clear hR r3 hbel hnew h1 h4
      go_enter Tryz.func32, Tryz.ntmps32
      go_wp2_with fail
      go_ret2
      exact ⟨⟨_, ret_pair HZ.out.symm rfl⟩, HBE.out⟩
    · have h4' : ¬ (100 : Int) < (rels.length : Int) := by omega
      have h4'' : (rels.length : Int) ≤ 100 := by omega
      have HS : Hid (∀ k, k < rels.length → (∀ j, j < k → presBad gn rels j = 0) → presBad gn rels k ≠ 0 → presE (gn : Int) rels = presBad gn rels k) := Lib.hid fun k => presE_some (by omega) (by omega)
      have HN := Lib.hid (@presE_none gn rels (by omega) (by omega))
      have HP : Hid (∀ q, PredW 60 #[.pointer (some ⟨w.heap.size, 0, none⟩)] (fun x => -9223372036854775808 ≤ x ∧ x ≤ 9223372036854775807) (letBad gn) ((w.alloc (.cells #[.int .i64 (gn : Int), .slice Ar rels.length cr] 26)).drewN q)) := Lib.hid fun q => pred121 gn w.heap.size (.slice Ar rels.length cr) _ (by omega) (cell_of2 hnew).1 (cell_of2 hnew).2
      clear hR r3 hbel hnew h1 h4
      go_enter Tryz.func32, Tryz.ntmps32
      go_wp2_with fail
      generalize hw0 : w.alloc (.cells #[.int .i64 (gn : Int), .slice Ar rels.length cr] 26) = w0 at *
      clear hw0
      go_loopw [4, 24] (fun l i wr => ∃ k s : Nat, i = .int .i64 k ∧ k ≤ rels.length ∧ l = .int .i64 (4000 - (s : Int)) ∧ s ≤ 4000 ∧ Hid (s = sumTo rels k ∧ ∀ j, j < k → presBad gn rels j = 0) ∧ ∃ q, wr = w0.drewN q) (fun _ i _ => rels.length - (intOf i).toNat)
      case atStart => exact ⟨0, 0, rfl, by omega, rfl, by omega, Lib.hid ⟨rfl, fun j hj => absurd hj (by omega)⟩, 0, rfl⟩
      case round =>
        obtain ⟨k, s, rfl, hk, rfl, hs, HK, q, rfl⟩ := hrel
        have hk0 : (0 : Int) ≤ (k : Int) := Int.natCast_nonneg _
        by_cases hlt : k < rels.length
        · have hlt' : (k : Int) < (rels.length : Int) := by omega
          obtain ⟨b, o, rfl, hcc⟩ := HR.out (by omega)
          obtain ⟨u, hu, hI⟩ := hcc k hlt
          have hu' : (w0.drewN q).cell? ⟨b, o + k, none⟩ = some u := (HBE.out.cell (p := ⟨b, o + k, none⟩) (World.block_lt_of_cell? w _ hu)).trans hu
          have HI := Lib.hid (hI.below HBE.out)
          obtain ⟨Au, cu, rfl, u1, u2, -⟩ := hI.open_
          have HSU := Lib.hid (sumTo_succ rels k)
          have HBL := Lib.hid (@presBad_long gn rels k)
          have HBT := Lib.hid (@presBad_let gn rels k)
          have HBO := Lib.hid (@presBad_ok gn rels k)
          have HSK : Hid (presBad gn rels k ≠ 0 → presE gn rels = presBad gn rels k) := Lib.hid (HS.out k hlt HK.out.2)
          have HNX : Hid (presBad gn rels k = 0 → ∀ j, j < k + 1 → presBad gn rels j = 0) := Lib.hid fun h => all_succ HK.out.2 h
          have HSM := Lib.hid HK.out.1
          have HPR := Lib.hid (has74_any 60 _ _ _ (w0.drewN q) eg121 (HP.out q) _ (rels.getD k []) (HI.out.drewN q) (fun x hx => HI.out.2 x hx))
          have hln0 : (0 : Int) ≤ ((rels.getD k []).length : Int) := Int.natCast_nonneg _
          clear hcc hI hu HI HS HN HP HR
          generalize hpe : presE (gn : Int) rels = pe at *
          have HPE := Lib.hid hpe
          clear hpe
          generalize presBad gn rels k = pb at *
          generalize hsm : sumTo rels (k + 1) = sm at *
          have HSME := Lib.hid hsm
          clear hsm
          generalize (rels.getD k []).any (letBad gn) = lb at *
          generalize (rels.getD k []).length = L at *
          have hs0 : (0 : Int) ≤ (s : Int) := Int.natCast_nonneg _
          have hs1 : (s : Int) ≤ 4000 := by omega
          have hL1 : (L : Int) ≤ 9223372036854775807 := by omega
          by_cases hov : 4000 < s + L
          · have hov' : (4000 : Int) - (s : Int) - (L : Int) < 0 := by omega
            have HZ : Hid (pe = 4) := Lib.hid (by have h1 := HBL.out (by rw [HSU.out, ← HSM.out]; exact hov); rw [HSK.out (by omega), h1])
            clear hov
            go_wp2_with fail
            go_ret2
            exact ⟨⟨_, ret_pair (by rw [HPE.out, HZ.out]) rfl⟩, below_drewN HBE.out _⟩
          · have hov' : ¬ (4000 : Int) - (s : Int) - (L : Int) < 0 := by omega
            have HSV := Lib.hid hov
            have hsl : s + L ≤ 4000 := by omega
            clear hov
            cases lb with
            | true =>
              have HZ : Hid (pe = 2) := Lib.hid (by have h1 := HBT.out (by rw [HSU.out, ← HSM.out]; exact HSV.out) rfl; rw [HSK.out (by omega), h1])
              go_wp2_with (go_at_call 42; (refine HPR.out.mono ?_); rintro e w' ⟨rfl, q', rfl⟩)
              go_ret2
              exact ⟨⟨_, ret_pair (by rw [HPE.out, HZ.out]) rfl⟩, below_drewN HBE.out _⟩
            | false =>
              have HZ : Hid (∀ j, j < k + 1 → presBad gn rels j = 0) := Lib.hid (HNX.out (HBO.out (by rw [HSU.out, ← HSM.out]; exact HSV.out) rfl))
              go_wp2_with (go_at_call 42; (refine HPR.out.mono ?_); rintro e w' ⟨rfl, q', rfl⟩)
              go_roundw
              case rel => exact ⟨k + 1, s + L, by go_num, by omega, congrArg (Value.int .i64) (by omega), hsl, Lib.hid ⟨by rw [HSME.out, HSU.out, HSM.out], HZ.out⟩, (by first | exact ⟨_, rfl⟩ | exact ex_drewN)⟩
              case measure => simp [intOf]; omega
        · obtain rfl : k = rels.length := by omega
          have HZ := Lib.hid (HN.out HK.out.2)
          clear HS HN HP HR
          go_wp2_with fail
          go_ret2
          exact ⟨⟨_, ret_pair HZ.out.symm rfl⟩, below_drewN HBE.out _⟩
end Go.Proofs
