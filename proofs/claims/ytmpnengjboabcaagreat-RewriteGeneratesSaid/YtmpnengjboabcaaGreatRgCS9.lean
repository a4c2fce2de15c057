/- The iterator of (table).walk; A range over a function whose body never leaves the loop; the iterator may write one box of its own; A region that draws its order, by an invariant on its slots: each operation is shown once, whatever order the region is run in. Fenced walk; walk, and the laws of the rewriting's rounds. -/
import Derived.Test.YtmpnengjboabcaaGreatRgCS8
import Derived.RangeFuncNested
import Derived.RangeFuncCalls
import Derived.OwnWalkIn
import Derived.TacticsInMore
import Derived.LoopNIn
import Derived.LoopIn
import Derived.RangeFuncFrom
import Derived.OrdersIn
import Derived.TacticsIn
import Derived.Deep.RegionHeld
import Derived.Test.YtmpnengjboabcaaGreatRgCS1
import Derived.RangeFuncLeaves
namespace Go.Proofs
open Go.RowKit Go.Shelf Go.Proofs.Ct Go.Maps
theorem wide_fn (f : FuncId) : Fence.wide.fn f := trivial
theorem wide_depth : Fence.wide.depth = none := rfl
attribute [local simp, local go_sem] wide_fn wide_depth
attribute [local go_sem] Oper.semAt_some
def runTo (t : Tb) (w : List Int) (r : Nat) (k : Nat) : Nat := foldTo (fun k r => stepW t r (w.getD k 0)) k r
def Kb (S : Nat → Prop) (A B : World) : Prop := B.os = A.os ∧ B.tape = A.tape ∧ B.output = A.output ∧ A.heap.size ≤ B.heap.size ∧ Ag S A B
structure WkSt (w0 wr : World) (bw br bt : Nat) (vw vt vr : Value) (r : Nat) : Prop where
  below : Below w0.heap.size w0 wr
  cw : wr.heap[bw]? = some (.cells #[vw] 39 (0, 0))
  ct : wr.heap[bt]? = some (.cells #[vt, vr] 60 (0, 0))
  cr : wr.heap[br]? = some (.cells #[.int .i64 (r : Int)] 3 (0, 0))
def WkS (w0 : World) (bw br bt : Nat) : Nat → Prop := fun k => k < w0.heap.size ∨ k = bw ∨ k = br ∨ k = bt
theorem WkSt.kb {w0 A B : World} {bw br bt : Nat} {vw vt vr : Value} {r : Nat} (h : WkSt w0 A bw br bt vw vt vr r) (hk : Kb (WkS w0 bw br bt) A B) : WkSt w0 B bw br bt vw vt vr r :=
  ⟨⟨hk.1.trans h.below.os, hk.2.1.trans h.below.tape, hk.2.2.1.trans h.below.output, Nat.le_trans h.below.size hk.2.2.2.1, fun k hk' => (hk.2.2.2.2 k (.inl hk')).trans (h.below.block k hk')⟩,
    (hk.2.2.2.2 bw (.inr (.inl rfl))).trans h.cw, (hk.2.2.2.2 bt (.inr (.inr (.inr rfl)))).trans h.ct, (hk.2.2.2.2 br (.inr (.inr (.inl rfl)))).trans h.cr⟩
theorem WkSt.below' {w0 A B : World} {bw br bt : Nat} {vw vt vr : Value} {r : Nat} (h : WkSt w0 A bw br bt vw vt vr r) (hb : Below A.heap.size A B) : WkSt w0 B bw br bt vw vt vr r :=
  ⟨h.below.trans (hb.mono h.below.size), (hb.block _ (Array.getElem?_eq_some_iff.1 h.cw).1).trans h.cw, (hb.block _ (Array.getElem?_eq_some_iff.1 h.ct).1).trans h.ct, (hb.block _ (Array.getElem?_eq_some_iff.1 h.cr).1).trans h.cr⟩
theorem WkSt.set {w0 A : World} {bw br bt : Nat} {vw vt vr : Value} {r r' : Nat} (h : WkSt w0 A bw br bt vw vt vr r) (h0 : w0.heap.size ≤ br) : WkSt w0 (A.setCell ⟨br, 0, none⟩ (.int .i64 (r' : Int))) bw br bt vw vt vr r' := by
  have hne : ∀ k, k ≠ br → (A.setCell ⟨br, 0, none⟩ (.int .i64 (r' : Int))).heap[k]? = A.heap[k]? := fun k hk => Below.heap_setCell A ⟨br, 0, none⟩ _ k hk
  have h1 : bw ≠ br := fun e => by have := h.cw; rw [e, h.cr] at this; cases this
  have h2 : bt ≠ br := fun e => by have := h.ct; rw [e, h.cr] at this; cases this
  refine ⟨h.below.trans ⟨rfl, rfl, rfl, by simp [World.setCell], fun k hk => hne k (by omega)⟩, (hne _ h1).trans h.cw, (hne _ h2).trans h.ct, ?_⟩
  have := h.cr
  simp [World.setCell, Array.getElem?_modify, this]
theorem cell_of1 {w : World} {b : Nat} {v : Value} {e : TypeId} (h : w.heap[b]? = some (.cells #[v] e (0, 0))) : w.cell? ⟨b, 0, none⟩ = some v ∧ w.frozen? ⟨b, 0, none⟩ = false :=
  ⟨by rw [cell_of_row _ _ _ _ _ _ h]; rfl, by simp [World.frozen?, h]⟩
theorem cell_of2 {w : World} {b : Nat} {v u : Value} {e : TypeId} (h : w.heap[b]? = some (.cells #[v, u] e (0, 0))) : w.cell? ⟨b, 0, none⟩ = some v ∧ w.cell? ⟨b, 1, none⟩ = some u :=
  ⟨by rw [cell_of_row _ _ _ _ _ _ h]; rfl, by rw [cell_of_row _ _ _ _ _ _ h]; rfl⟩
def LetsOk (g : Nat) (w : List Int) : Prop := ∀ x ∈ w, -(g : Int) ≤ x ∧ x ≤ g ∧ x ≠ 0
theorem LetsOk.at_ {g : Nat} {w : List Int} (h : LetsOk g w) {k : Nat} (hk : k < w.length) : -(g : Int) ≤ w.getD k 0 ∧ w.getD k 0 ≤ g ∧ w.getD k 0 ≠ 0 := by
  rw [List.getD_eq_getElem?_getD, List.getElem?_eq_getElem hk]
  exact h _ (List.getElem_mem hk)
theorem stepW_at {g : Nat} {t : Tb} (hg : TGood g t) (hs : Std t) {r : Nat} (hr : r < t.length) {x : Int} (hx : -(g : Int) ≤ x ∧ x ≤ g ∧ x ≠ 0) :
    ∃ c, c < 2 * g ∧ ColOf x c ∧ t.at r c = (stepW t r x : Int) ∧ stepW t r x < t.length := by
  by_cases hp : 0 < x
  · have hc : (2 * x - 2).toNat < 2 * g := by omega
    have h1 := hs.pos r hr (2 * x - 2).toNat (by rw [hg.len r hr]; exact hc)
    have h2 := (hg.bd r hr _ hc).2
    refine ⟨(2 * x - 2).toNat, hc, .inl ⟨hp, by omega⟩, ?_, ?_⟩
    · unfold stepW; rw [if_pos hp]; omega
    · unfold stepW; rw [if_pos hp]; omega
  · have hc : (-2 * x - 1).toNat < 2 * g := by omega
    have h1 := hs.pos r hr (-2 * x - 1).toNat (by rw [hg.len r hr]; exact hc)
    have h2 := (hg.bd r hr _ hc).2
    refine ⟨(-2 * x - 1).toNat, hc, .inr ⟨by omega, by omega⟩, ?_, ?_⟩
    · unfold stepW; rw [if_neg hp]; omega
    · unfold stepW; rw [if_neg hp]; omega
theorem runTo_lt {g : Nat} {t : Tb} (hg : TGood g t) (hs : Std t) {w : List Int} (hw : LetsOk g w) {r : Nat} (hr : r < t.length) : ∀ k, k ≤ w.length → runTo t w r k < t.length
  | 0, _ => hr
  | k + 1, hk => by
    have := runTo_lt hg hs hw hr k (by omega)
    obtain ⟨c, -, -, -, h⟩ := stepW_at hg hs this (hw.at_ (by omega : k < w.length))
    exact h
set_option maxRecDepth 100000 in
set_option maxHeartbeats 2000000 in
theorem walk145 (n l bw br bt : Nat) (J : Nat → World → Prop) (W w0 : World) (vw vt : Value) (A1 : Option Addr) (n1 c1 : Nat) (g : Nat) (t : Tb) (ws : List Int) (r0 : Nat)
    (hst : WkSt w0 W bw br bt vw vt (.slice A1 n1 c1) r0) (hbr : w0.heap.size ≤ br) (ht : Tab w0 vt t) (hw : IntsAt w0 vw ws) (hg : TGood g t) (hs : Std t) (hl : LetsOk g ws) (hr : r0 < t.length)
    (hJa : ∀ k A B, J k A → Below A.heap.size A B → J k B) (hJs : ∀ k A v, J k A → (A.cell? ⟨br, 0, none⟩).isSome = true → J k (A.setCell ⟨br, 0, none⟩ v))
    (hY : ∀ k W1, J k W1 → k < ws.length → YieldAt Fence.wide (n - 1) Tryz.prog l #[.int .i64 (runTo t ws r0 k : Int), .int .i64 (ws.getD k 0)] W1 fun e W' => e = .returned (.bool true) ∧ J (k + 1) W' ∧ Kb (WkS w0 bw br bt) W1 W')
    (h0 : J 0 W) :
    CallsIn Fence.wide n Tryz.prog 93 #[.func (.yield l) #[] #[], .pointer (some ⟨bw, 0, none⟩), .pointer (some ⟨br, 0, none⟩), .pointer (some ⟨bt, 0, none⟩)] W fun e W' => (∃ v, e = .returned v) ∧ J ws.length W' := by
  obtain ⟨Aw, cw, rfl, hw1, hw2, hw3⟩ := hw.open_
  have HST := Lib.hid hst
  have HJA := Lib.hid hJa
  have HJS := Lib.hid hJs
  have HY := Lib.hid hY
  have H0 := Lib.hid h0
  have HW := Lib.hid hw3
  have HT := Lib.hid ht
  have HG := Lib.hid hg
  have HS := Lib.hid hs
  have HL := Lib.hid hl
  have hg16 := hg.g16
  have hc0 := (cell_of1 hst.cw).1
  clear hst hJa hJs hY h0 hw hw3 ht hg hs hl
  gi_enter Tryz.func93, Tryz.ntmps93
  gi_wp2_with fail
  gi_loopw [9] (fun i wr => ∃ k : Nat, i = .int .i64 k ∧ k ≤ ws.length ∧ Hid (J k wr ∧ WkSt w0 wr bw br bt (.slice Aw ws.length cw) vt (.slice A1 n1 c1) (runTo t ws r0 k))) (fun i _ => ws.length - (intOf i).toNat)
  case atStart => exact ⟨0, rfl, by omega, Lib.hid ⟨H0.out, HST.out⟩⟩
  case round =>
    obtain ⟨k, rfl, hk, HS2⟩ := hrel
    have hk0 : (0 : Int) ≤ (k : Int) := Int.natCast_nonneg _
    by_cases hlt : k < ws.length
    · have hlt' : (k : Int) < (ws.length : Int) := by omega
      obtain ⟨b, o, rfl, hcc⟩ := HW.out (by omega)
      have hck := hcc k hlt
      have hck' := (HS2.out.2.below.cell (p := ⟨b, o + k, none⟩) (World.block_lt_of_cell? w0 _ hck)).trans hck
      have hrk := runTo_lt HG.out HS.out HL.out hr k (by omega)
      obtain ⟨c, hc, hcol, hat, hlt2⟩ := stepW_at HG.out HS.out hrk (HL.out.at_ hlt)
      have hx := HL.out.at_ hlt
      have hrs : runTo t ws r0 (k + 1) = stepW t (runTo t ws r0 k) (ws.getD k 0) := rfl
      obtain ⟨fn, tmps, assign, body, hy, hR⟩ := HY.out k wr HS2.out.1 hlt
      have HRS := Lib.hid hrs
      have HAT := Lib.hid hat
      have HR := Lib.hid hR
      have hcr := (cell_of1 HS2.out.2.cr).1
      clear hcc hck hrs hat hR
      generalize ws.getD k 0 = x at *
      generalize runTo t ws r0 k = r at *
      have hx1 : -1000 ≤ x := by omega
      have hx2 : x ≤ 1000 := by omega
      gi_wp2_with (first
        | (refine HR.out.mono ?_; rintro e W2 ⟨rfl, hj, hkp⟩
           have HS3 := Lib.hid (And.intro hj (HS2.out.2.kb hkp))
           obtain ⟨z1, z2⟩ := cell_of2 HS3.out.2.ct
           have z3 := (cell_of1 HS3.out.2.cr).1
           clear hj hkp)
        | ((refine (callsIn_wide.2 (step70_any _ vt A1 n1 c1 t r x c (kept_tab.below HT.out HS3.out.2.below) hrk (by rw [HG.out.len r hrk]; exact hc) hcol ⟨hx1, hx2⟩)).mono ?_); rintro e W3 ⟨rfl, hb⟩
           have HS4 := Lib.hid (And.intro (HJA.out _ _ _ HS3.out.1 hb) (HS3.out.2.below' hb))
           rw [HAT.out]
           obtain ⟨y1, y2⟩ := cell_of1 HS4.out.2.cr
           clear hb))
      have HS5 : Hid (J (k + 1) (W3.setCell ⟨br, 0, none⟩ (.int .i64 (stepW t r x : Int))) ∧ WkSt w0 (W3.setCell ⟨br, 0, none⟩ (.int .i64 (stepW t r x : Int))) bw br bt (.slice (some ⟨b, o, none⟩) ws.length cw) vt (.slice A1 n1 c1) (runTo t ws r0 (k + 1))) :=
        Lib.hid ⟨HJS.out _ _ _ HS4.out.1 (by rw [y1]; rfl), by rw [HRS.out]; exact HS4.out.2.set hbr⟩
      exact ⟨⟨k + 1, by go_num, by omega, HS5⟩, by simp [intOf]; omega⟩
    · have hlt' : ¬ (k : Int) < (ws.length : Int) := by omega
      have hke : k = ws.length := by omega
      subst hke
      gi_wp2_with fail
      go_end0
      exact ⟨⟨_, rfl⟩, HS2.out.1⟩
end Go.Proofs
namespace Go.Proofs
open Go.RowKit Go.Shelf Go.Proofs.Ct Go.Maps
structure Turned (bo B : Nat) (W W' : World) : Prop where
  os : W'.os = W.os
  tape : W'.tape = W.tape
  output : W'.output = W.output
  size : W.heap.size ≤ W'.heap.size
  block : ∀ k, k < W.heap.size → k ≠ bo → (k < B ∨ ∃ o : Obj, W.heap[k]? = some o ∧ o.isCells = false) → W'.heap[k]? = W.heap[k]?
theorem Turned.trans {bo B : Nat} {W X Y : World} (h : Turned bo B W X) (k : Turned bo B X Y) : Turned bo B W Y :=
  ⟨k.os.trans h.os, k.tape.trans h.tape, k.output.trans h.output, Nat.le_trans h.size k.size, fun i hi hb hc =>
    (k.block i (Nat.lt_of_lt_of_le hi h.size) hb (hc.imp id fun ⟨o, ho, hn⟩ => ⟨o, (h.block i hi hb hc).trans ho, hn⟩)).trans (h.block i hi hb hc)⟩
theorem Turned.of_below {bo B : Nat} {W X : World} (h : Below W.heap.size W X) : Turned bo B W X := ⟨h.os, h.tape, h.output, h.size, fun i hi _ _ => h.block i hi⟩
theorem Turned.set {bo B : Nat} {W : World} (v : Value) : Turned bo B W (W.setCell ⟨bo, 0, none⟩ v) := ⟨rfl, rfl, rfl, by simp [World.setCell], fun i _ hb _ => Below.heap_setCell W ⟨bo, 0, none⟩ v i hb⟩
theorem Turned.grown {bo B : Nat} {W X : World} {row : Option Nat} (h : W.grownBy X row) (hr : ∀ r, row = some r → B ≤ r ∧ ∃ o : Obj, W.heap[r]? = some o ∧ o.isCells = true) : Turned bo B W X :=
  ⟨h.os, h.tape, h.output, h.size, fun i hi _ hc => h.block i hi fun e => by
    obtain ⟨h1, o, h2, h3⟩ := hr i e.symm
    rcases hc with hc | ⟨o', h4, h5⟩
    · omega
    · rw [h2] at h4; cases h4; rw [h3] at h5; cases h5⟩
theorem Turned.kb {bo B : Nat} {W X : World} (h : Turned bo B W X) {S : Nat → Prop} (hS : ∀ k, S k → k < B ∧ k ≠ bo) (hB : B ≤ W.heap.size) : Kb S W X :=
  ⟨h.os, h.tape, h.output, h.size, fun k hk => h.block k (Nat.lt_of_lt_of_le (hS k hk).1 hB) (hS k hk).2 (.inl (hS k hk).1)⟩
theorem Kb.trans {S : Nat → Prop} {A B C : World} (h : Kb S A B) (k : Kb S B C) : Kb S A C :=
  ⟨k.1.trans h.1, k.2.1.trans h.2.1, k.2.2.1.trans h.2.2.1, Nat.le_trans h.2.2.2.1 k.2.2.2.1, h.2.2.2.2.trans k.2.2.2.2⟩
theorem Kb.put {S : Nat → Prop} {W : World} {l : Nat} {o : Obj} (hS : ∀ k, S k → k ≠ l) : Kb S W (W.putObj l o) :=
  ⟨rfl, rfl, rfl, by simp, fun k hk => World.putObj_heap_other (hS k hk)⟩
def goesOn (bo B : Nat) (I : World → Prop) (W : World) : Exit → Act → World → Prop
  | .normal, _, W' => Turned bo B W W' ∧ I W'
  | _, _, _ => False
theorem wpIn_rangeWalk {n : Nat} {g : Operand} {ps : Array Tmp} {assign body : Code} {Q : Exit → Act → World → Prop} {a : Act} {w : World}
    {gf : Nat} {lb : Array Value} (hg : a.eval g = .func (.func gf) #[] lb) (eg : ∀ args w, (callFunc gf args).run Tryz.prog w = .ok (.enter gf args) w)
    {encs : Nat → Array Value} {S : Nat → Prop} (N bo br : Nat) (hbo : bo < w.heap.size) (hbr : br < w.heap.size) (hS : ∀ k, S k → k < w.heap.size ∧ k ≠ bo) (hps : ∀ k, (encs k).size = ps.size)
    (hseq : ∀ (l : Nat) (J : Nat → World → Prop) (W : World), Below w.heap.size w W →
      (∀ k A B, J k A → Below A.heap.size A B → J k B) → (∀ k A v, J k A → (A.cell? ⟨br, 0, none⟩).isSome = true → J k (A.setCell ⟨br, 0, none⟩ v)) →
      (∀ k W1, J k W1 → k < N → YieldAt Fence.wide (n - 1 - 1) Tryz.prog l (encs k) W1 fun e W' => e = .returned (.bool true) ∧ J (k + 1) W' ∧ Kb S W1 W') →
      J 0 W → CallsIn Fence.wide (n - 1) Tryz.prog gf (#[.func (.yield l) #[] #[]] ++ lb) W fun e W' => (∃ v, e = .returned v) ∧ J N W')
    (I : Nat → World → Prop) (hIa : ∀ k A B, I k A → Below A.heap.size A B → I k B) (hIs : ∀ k A v, I k A → (A.cell? ⟨br, 0, none⟩).isSome = true → I k (A.setCell ⟨br, 0, none⟩ v))
    (hIp : ∀ k A l (o o' : Obj), I k A → w.heap.size ≤ l → A.heap[l]? = some o → o.isCells = false → I k (A.putObj l o'))
    (h0 : I 0 w) (a₁ : Nat → Act)
    (hassign : ∀ (l : Nat) (k : Nat) (W : World) (K : Act → World → Prop), K (a₁ k) W →
      assign.wpIn (Fence.wide.inRound l) (n - 1 - 1) Tryz.prog (Exit.then K (fun _ _ _ => False)) { tmps := (ps.zip (encs k)).foldl (fun t (p, v) => t.setIfInBounds p v) a.tmps, defers := [] } W)
    (hbody : ∀ (l : Nat) (k : Nat) (W : World), I k W → k < N → w.heap.size ≤ W.heap.size → body.wpIn (Fence.wide.inRound l) (n - 1 - 1) Tryz.prog (goesOn bo w.heap.size (I (k + 1)) W) (a₁ k) W)
    (hdone : ∀ (D : Nat) (W : World), w.heap.size ≤ D → I N W → W.heap[D]? = some (.deferred (some [])) → Q .normal { a with defers := { target := .collected D, args := #[] } :: a.defers } W) :
    (Code.rangeFunc g ps assign body).wpIn Fence.wide n Tryz.prog Q a w := by
  refine wpIn_rangeFunc ?_
  intro fn hfn
  obtain ⟨rec, hrec⟩ : ∃ rec : LoopState → Option Code → Loop, rec = fun st pe => { state := st, pending := pe, fn, tmps := a.tmps, params := ps, assign, body, defers := w.heap.size } := ⟨_, rfl⟩
  obtain ⟨W1, hW1⟩ : ∃ W1, (w.alloc (.deferred (some []))).alloc (.loop (rec .ready none)) = W1 := ⟨_, rfl⟩
  have hL1 : W1.heap[w.heap.size + 1]? = some (.loop (rec .ready none)) := by
    rw [← hW1]; have := World.alloc_heap_new (w.alloc (.deferred (some []))) (.loop (rec .ready none)); rwa [World.size_alloc] at this
  have hK1 : W1.heap[w.heap.size]? = some (.deferred (some [])) := by
    rw [← hW1]; exact (Below.heap_alloc _ _ _ (by simp)).trans (World.alloc_heap_new w _)
  have hb1 : Below w.heap.size w W1 := by
    rw [← hW1]; exact ((Below.refl _ w).alloc (Nat.le_refl _) _).alloc (by simp) _
  have hI1 : I 0 W1 := hIa _ _ _ h0 hb1
  refine ⟨w.heap.size + 1, [{ target := .collected w.heap.size, args := #[] }], W1, { target := .fn (.func gf) lb, args := #[.func (.yield (w.heap.size + 1)) #[] #[]] }, W1, gf,
    #[.func (.yield (w.heap.size + 1)) #[] #[]] ++ lb, W1, ?_, ?_, ?_, ?_, fun h => (by simp [wide_depth] at h), ?_⟩
  · rw [← hW1, hrec]; exact run_enterLoop_outer _ _ _ _ _
  · simp only [resolve, hg]
    simp [go_sem]
  · intro f' _; trivial
  · simp [invoke, go_sem, eg]
  · refine (hseq (w.heap.size + 1)
      (fun k W => I k W ∧ W.heap[w.heap.size + 1]? = some (.loop (rec .ready none)) ∧ W.heap[w.heap.size]? = some (.deferred (some [])))
      W1 hb1
      (fun k A B hs hb => ⟨hIa k A B hs.1 hb, (hb.block _ (Array.getElem?_eq_some_iff.1 hs.2.1).1).trans hs.2.1, (hb.block _ (Array.getElem?_eq_some_iff.1 hs.2.2).1).trans hs.2.2⟩)
      (fun k A v hs hc => ⟨hIs k A v hs.1 hc, (Below.heap_setCell A ⟨br, 0, none⟩ v _ (by simp; omega)).trans hs.2.1, (Below.heap_setCell A ⟨br, 0, none⟩ v _ (by simp; omega)).trans hs.2.2⟩)
      ?_ ⟨hI1, hL1, hK1⟩).mono ?_
    · -- ONE ROUND
      rintro k W ⟨hi, hl, hk⟩ hlen
      have hlt : w.heap.size + 1 < W.heap.size := (Array.getElem?_eq_some_iff.1 hl).1
      have hy := run_yield (P := Tryz.prog) (args := encs k) hl (by rw [hrec]; exact hps k)
      rw [hrec] at hy
      refine ⟨fn, _, assign, body, hy, roundIn_of_wpIn hfn (hassign _ k W _ ⟨_, run_beginRound hl (by rw [hrec]), ?_⟩)⟩
      obtain ⟨Wb, hWb⟩ : ∃ Wb, Wb = W.putObj (w.heap.size + 1) (.loop { rec .ready none with state := .busy }) := ⟨_, rfl⟩
      have hl2 : Wb.heap[w.heap.size + 1]? = some (.loop { rec .ready none with state := .busy }) := by rw [hWb]; exact World.putObj_heap_same hlt
      have hk2 : Wb.heap[w.heap.size]? = some (.deferred (some [])) := by rw [hWb]; exact (World.putObj_heap_other (by omega)).trans hk
      have hi2 : I k Wb := by rw [hWb]; exact hIp k W (w.heap.size + 1) _ _ hi (by omega) hl rfl
      have hw2 : Kb S W Wb := by rw [hWb]; exact Kb.put fun j hj e => by have := (hS j hj).1; omega
      have hs2 : W.heap.size = Wb.heap.size := by rw [hWb]; simp
      rw [← hWb]
      refine wpIn_mono (hbody _ k Wb hi2 hlen (by omega)) ?_
      rintro e a3 W3 hp
      cases e with
      | normal =>
        obtain ⟨ht, hi3⟩ := hp
        have hl3 := (ht.block _ (by omega) (by omega) (.inr ⟨_, hl2, rfl⟩)).trans hl2
        have hk3 := (ht.block _ (by omega) (by omega) (.inr ⟨_, hk2, rfl⟩)).trans hk2
        have hsz3 := ht.size
        have hr := run_endRound (P := Tryz.prog) none hl3
        rw [hrec] at hr
        refine ⟨_, _, hr, rfl, ⟨hIp _ _ _ _ _ hi3 (by omega) hl3 rfl, ?_, (World.putObj_heap_other (by omega)).trans hk3⟩, ?_⟩
        · rw [hrec]; exact World.putObj_heap_same (by omega)
        · exact (hw2.trans (ht.kb hS (by omega))).trans (Kb.put fun j hj e => by have := (hS j hj).1; omega)
      | ret => exact hp.elim
      | exit id => exact hp.elim
      | goto t => exact hp.elim
      | panic ch => exact hp.elim
      | outgrown => exact hp.elim
    · -- BEHIND THE ITERATOR
      rintro e W2 ⟨⟨v, rfl⟩, hi, hl, hk⟩
      exact ⟨none, _, by have := run_endLoop (P := Tryz.prog) hl (by rw [hrec]; simp); rw [hrec] at this; exact this, hdone _ _ (Nat.le_refl _) (hIp _ _ _ _ _ hi (by omega) hl rfl) ((World.putObj_heap_other (by omega)).trans hk)⟩
end Go.Proofs
namespace Go.Proofs
section
variable {F : Fence} {n : Nat} {P : Program} {ops : Array Oper} {Q : Exit → Act → World → Prop} {md : Region.Mode}
theorem count_set : ∀ (l : List Bool) (i : Nat), l[i]? = some false → (l.set i true).count false + 1 = l.count false
  | [], i, h => by simp at h
  | b :: l, 0, h => by
    simp at h
    subst h
    simp
  | b :: l, i + 1, h => by
    have ih := count_set l i (by simpa using h)
    simp only [List.set_cons_succ, List.count_cons]
    omega
theorem ready_mem {listed : Array Bool} {i : Nat} (h : i ∈ Region.ready md ops listed) : i < ops.size ∧ listed.getD i true = false ∧
    ∃ o, ops[i]? = some o ∧ ∀ e ∈ o.after.toList, Region.binds md e = true → listed.getD e.on false = true := by
  simp only [Region.ready, List.mem_filter, List.mem_range, Bool.and_eq_true, Bool.not_eq_true'] at h
  obtain ⟨h1, h2, h3⟩ := h
  refine ⟨h1, h2, ops[i], Array.getElem?_eq_getElem h1, fun e he hb => ?_⟩
  rw [Array.getElem?_eq_getElem h1] at h3
  simp only [Option.map_some, Option.getD_some] at h3
  rw [Array.all_eq_true_iff_forall_mem] at h3
  have := h3 e (by simpa using he)
  simpa [hb] using this
theorem wpAnyIn_inv (I : Array Bool → Act → World → Prop)
    (hstep : ∀ listed a w i, listed.size = ops.size → I listed a w → i ∈ Region.ready md ops listed → wpOpIn F n P ops Q i (I (listed.setIfInBounds i true)) a w)
    (hend : ∀ listed a w, listed.size = ops.size → I listed a w → Region.ready md ops listed = [] → Q .normal a w) :
    ∀ (fuel : Nat) (listed : Array Bool) (a : Act) (w : World), listed.size = ops.size → listed.toList.count false ≤ fuel → I listed a w → wpAnyIn F n P md ops Q fuel listed a w := by
  intro fuel
  induction fuel with
  | zero =>
    intro listed a w hs hc hI
    have hr : Region.ready md ops listed = [] := by
      rw [List.eq_nil_iff_forall_not_mem]
      intro i hi
      obtain ⟨h1, h2, _⟩ := ready_mem hi
      have hlt : i < listed.size := by omega
      have hf : listed[i] = false := by simpa [Array.getD, hlt] using h2
      have : false ∈ listed.toList := by rw [← hf]; simp
      have := List.count_pos_iff.2 this
      omega
    exact ⟨hr, hend _ _ _ hs hI hr⟩
  | succ fuel ih =>
    intro listed a w hs hc hI
    refine ⟨hend _ _ _ hs hI, fun i hi => ?_⟩
    obtain ⟨h1, h2, _⟩ := ready_mem hi
    have hlt : i < listed.size := by omega
    have hf : listed.toList[i]? = some false := by
      have : listed[i] = false := by simpa [Array.getD, hlt] using h2
      simp [hlt, this]
    have hcs := count_set listed.toList i hf
    refine wpOpIn_mono (fun a' w' h' => ih _ a' w' (by simpa using hs) ?_ h') (hstep listed a w i hs hI hi)
    rw [Array.toList_setIfInBounds]
    omega
structure Same (a0 : Act) (lo N : Nat) (a : Act) : Prop where
  size : a.tmps.size = a0.tmps.size
  defers : a.defers = a0.defers
  out : ∀ t, t < lo ∨ lo + N ≤ t → a.tmps.getD t undef = a0.tmps.getD t undef
theorem Same.refl (a0 : Act) (lo N : Nat) : Same a0 lo N a0 := ⟨rfl, rfl, fun _ _ => rfl⟩
theorem Same.put {a0 a : Act} {lo N i : Nat} (h : Same a0 lo N a) (hi : i < N) (v : Value) : Same a0 lo N (a.put (some (lo + i)) v) :=
  ⟨by simpa [Act.put] using h.size, h.defers, fun t ht => by
    rw [← h.out t ht]
    have hne : lo + i ≠ t := by omega
    simp only [Act.put, Array.getD_eq_getD_getElem?]
    rw [Array.getElem?_setIfInBounds_ne hne]⟩
theorem put_getD_same (a : Act) (t : Nat) (v : Value) (h : t < a.tmps.size) : (a.put (some t) v).tmps.getD t undef = v := by
  simp [Act.put, Array.getD_eq_getD_getElem?, h]
theorem put_getD_ne (a : Act) (t u : Nat) (v : Value) (h : t ≠ u) : (a.put (some t) v).tmps.getD u undef = a.tmps.getD u undef := by
  simp only [Act.put, Array.getD_eq_getD_getElem?]
  rw [Array.getElem?_setIfInBounds_ne h]
structure Tailed (ops : Array Oper) (N : Nat) : Prop where
  size : ops.size = N + 2
  lex : ∀ (i : Nat) (o : Oper), ops[i]? = some o → ∀ e ∈ o.after.toList, e.on < i
  succ : ∀ i, i < N → ∃ (j : Nat) (o : Oper), i < j ∧ j ≤ N ∧ ops[j]? = some o ∧ ∃ e ∈ o.after.toList, e.on = i ∧ Region.binds .any e = true
  last : ∃ o : Oper, ops[N + 1]? = some o ∧ ∃ e ∈ o.after.toList, e.on = N ∧ Region.binds .any e = true
def tailedB (ops : Array Oper) (N : Nat) : Bool :=
  (ops.size == N + 2) && (List.range ops.size).all (fun i => match ops[i]? with | some o => o.after.toList.all fun e => decide (e.on < i) | none => true) &&
  (List.range N).all (fun i => (List.range (N + 1)).any fun j => decide (i < j) && (match ops[j]? with | some o => o.after.toList.any fun e => (e.on == i) && Region.binds .any e | none => false)) &&
  (match ops[N + 1]? with | some o => o.after.toList.any fun e => (e.on == N) && Region.binds .any e | none => false)
theorem tailed_of {ops : Array Oper} {N : Nat} (h : tailedB ops N = true) : Tailed ops N := by
  unfold tailedB at h
  simp only [Bool.and_eq_true] at h
  obtain ⟨⟨⟨h1, h2⟩, h3⟩, h4⟩ := h
  refine ⟨by simpa using h1, fun i o ho e he => ?_, fun i hi => ?_, ?_⟩
  · rw [List.all_eq_true] at h2
    have hi : i < ops.size := (Array.getElem?_eq_some_iff.1 ho).1
    have := h2 i (by simpa using hi)
    rw [ho] at this
    rw [List.all_eq_true] at this
    simpa using this e he
  · rw [List.all_eq_true] at h3
    have := h3 i (by simpa using hi)
    rw [List.any_eq_true] at this
    obtain ⟨j, hj, hjj⟩ := this
    rw [Bool.and_eq_true] at hjj
    obtain ⟨hij, hm⟩ := hjj
    cases ho : ops[j]? with
    | none => rw [ho] at hm; cases hm
    | some o =>
      rw [ho] at hm
      rw [List.any_eq_true] at hm
      obtain ⟨e, he, hee⟩ := hm
      rw [Bool.and_eq_true] at hee
      exact ⟨j, o, by simpa using hij, by simp at hj; omega, ho, e, he, by simpa using hee.1, hee.2⟩
  · cases ho : ops[N + 1]? with
    | none => rw [ho] at h4; cases h4
    | some o =>
      rw [ho] at h4
      rw [List.any_eq_true] at h4
      obtain ⟨e, he, hee⟩ := h4
      rw [Bool.and_eq_true] at hee
      exact ⟨o, rfl, e, he, by simpa using hee.1, hee.2⟩
def Closed (ops : Array Oper) (listed : Array Bool) : Prop := ∀ (i : Nat) (o : Oper), ops[i]? = some o → listed.getD i false = true → ∀ e ∈ o.after.toList, Region.binds .any e = true → listed.getD e.on false = true
theorem getD_set_listed {listed : Array Bool} {i j : Nat} (hi : i < listed.size) : (listed.setIfInBounds i true).getD j false = if i = j then true else listed.getD j false := by
  simp only [Array.getD_eq_getD_getElem?]
  by_cases e : i = j
  · subst e; simp [hi]
  · rw [Array.getElem?_setIfInBounds_ne e, if_neg e]
theorem getD_true_false {listed : Array Bool} {i : Nat} (hi : i < listed.size) : listed.getD i true = listed.getD i false := by
  simp [Array.getD, hi]
section
variable {F : Fence} {n : Nat} {P : Program} {ops : Array Oper} {Q : Exit → Act → World → Prop}
theorem Tailed.before {N : Nat} (ht : Tailed ops N) {listed : Array Bool} (hc : Closed ops listed) {o : Oper} (ho : ops[N]? = some o) (hp : ∀ e ∈ o.after.toList, Region.binds .any e = true → listed.getD e.on false = true) :
    ∀ k i, i < N → N - i ≤ k → listed.getD i false = true := by
  intro k
  induction k with
  | zero => intro i hi hk; omega
  | succ k ih =>
    intro i hi hk
    obtain ⟨j, oj, hij, hjN, hoj, e, he, rfl, hb⟩ := ht.succ i hi
    rcases Nat.lt_or_ge j N with h | h
    · exact hc j oj hoj (ih j h (by omega)) e he hb
    · have : j = N := by omega
      subst this
      rw [ho] at hoj
      cases hoj
      exact hp e he hb
theorem wpIn_region_tail {id : Nat} {a0 : Act} {w : World} (hm : P.follows .mixedOrders = true) (lo N : Nat) (ht : Tailed ops N) (S : World → Prop) (Φ : Nat → Value → World → Prop) (G : World → World → Prop)
    (hΦ : ∀ i v w w', G w w' → Φ i v w → Φ i v w')
    (hsz : lo + N ≤ a0.tmps.size) (h0 : S w.drew)
    (hop : ∀ (i : Nat) (o : Oper) (a : Act) (w : World), i < N → ops[i]? = some o → S w → Same a0 lo N a → (∀ e ∈ o.after.toList, Region.binds .any e = true → Φ e.on (a.tmps.getD (lo + e.on) undef) w) →
      o.guard = none ∧ o.dst = some (lo + i) ∧ o.wpIn F n P a w (fun a' w' => ∃ v, a' = a.put (some (lo + i)) v ∧ S w' ∧ G w w' ∧ Φ i v w') Q)
    (hend : ∀ (a : Act) (w : World), S w → Same a0 lo N a → (∀ i, i < N → Φ i (a.tmps.getD (lo + i) undef) w) →
      wpOpIn F n P ops Q N (fun a' w' => wpOpIn F n P ops Q (N + 1) (fun a'' w'' => Q .normal a'' w'') a' w') a w) :
    (Code.region id ops true).wpIn F n P Q a0 w := by
  refine wpIn_region_any hm ?_
  have hsize := ht.size
  refine wpAnyIn_inv (fun listed a w => Closed ops listed ∧
      ((listed.getD N false = false ∧ listed.getD (N + 1) false = false ∧ S w ∧ Same a0 lo N a ∧ ∀ i, i < N → listed.getD i false = true → Φ i (a.tmps.getD (lo + i) undef) w) ∨
       (listed.getD N false = true ∧ listed.getD (N + 1) false = false ∧ wpOpIn F n P ops Q (N + 1) (fun a'' w'' => Q .normal a'' w'') a w) ∨
       (listed.getD (N + 1) false = true ∧ Q .normal a w))) ?_ ?_ ops.size _ a0 _ (by simp) ?_ ⟨fun i o ho h => ?_, .inl ⟨?_, ?_, h0, Same.refl _ _ _, fun i hi h => ?_⟩⟩
  · rintro listed a w i hls ⟨hcl, hI⟩ hi
    obtain ⟨h1, h2, o, ho, hpre⟩ := ready_mem hi
    rw [getD_true_false (by omega)] at h2
    have hcl' : Closed ops (listed.setIfInBounds i true) := fun j oj hoj hl e he hb => by
      rw [getD_set_listed (by omega)] at hl ⊢
      by_cases eij : i = j
      · subst eij
        rw [ho] at hoj; cases hoj
        have := hpre e he hb
        split
        · rfl
        · exact this
      · rw [if_neg eij] at hl
        have := hcl j oj hoj hl e he hb
        split
        · rfl
        · exact this
    have hsetD : ∀ j, (listed.setIfInBounds i true).getD j false = if i = j then true else listed.getD j false := fun j => getD_set_listed (by omega)
    rcases hI with ⟨hN, hN1, hS, hsame, hsl⟩ | ⟨hN, hN1, hK⟩ | ⟨hN1, hQ⟩
    · rcases Nat.lt_or_ge i N with hiN | hiN
      · obtain ⟨hg, hd, hwp⟩ := hop i o a w hiN ho hS hsame (fun e he hb => by
          have hl := hpre e he hb
          have hlt := ht.lex i o ho e he
          exact hsl e.on (by omega) hl)
        unfold wpOpIn
        rw [ho]
        simp only [Region.wanted, hg, if_true]
        refine Oper.wpIn_mono (fun a' w' h => ?_) hwp
        obtain ⟨v, rfl, hS', hG, hv⟩ := h
        refine ⟨hcl', .inl ⟨by rw [hsetD, if_neg (by omega)]; exact hN, by rw [hsetD, if_neg (by omega)]; exact hN1, hS', hsame.put hiN v, fun j hj hl => ?_⟩⟩
        by_cases e : i = j
        · subst e
          rw [put_getD_same _ _ _ (by rw [hsame.size]; omega)]
          exact hv
        · rw [put_getD_ne _ _ _ _ (by omega)]
          rw [hsetD, if_neg e] at hl
          exact hΦ j _ _ _ hG (hsl j hj hl)
      · have hi2 : i = N ∨ i = N + 1 := by omega
        rcases hi2 with rfl | rfl
        · have hall := ht.before hcl ho hpre
          refine wpOpIn_mono (fun a' w' h => ?_) (hend a w hS hsame (fun j hj => hsl j hj (hall _ j hj (Nat.le_refl _))))
          exact ⟨hcl', .inr (.inl ⟨by rw [hsetD, if_pos rfl], by rw [hsetD, if_neg (by omega)]; exact hN1, h⟩)⟩
        · obtain ⟨o', ho', e, he, heN, hb⟩ := ht.last
          rw [ho] at ho'; cases ho'
          have := hpre e he hb
          rw [heN, hN] at this
          cases this
    · rcases Nat.lt_or_ge i N with hiN | hiN
      · have hoN : ∃ o, ops[N]? = some o := ⟨ops[N]'(by omega), Array.getElem?_eq_getElem (by omega)⟩
        obtain ⟨oN, hoN⟩ := hoN
        have := ht.before hcl hoN (hcl N oN hoN hN) _ i hiN (Nat.le_refl _)
        rw [h2] at this; cases this
      · have hi2 : i = N ∨ i = N + 1 := by omega
        rcases hi2 with rfl | rfl
        · rw [h2] at hN; cases hN
        · refine wpOpIn_mono (fun a' w' h => ?_) hK
          exact ⟨hcl', .inr (.inr ⟨by rw [hsetD, if_pos rfl], h⟩)⟩
    · have hN : listed.getD N false = true := by
        obtain ⟨o', ho', e, he, heN, hb⟩ := ht.last
        have := hcl (N + 1) o' ho' hN1 e he hb
        rwa [heN] at this
      rcases Nat.lt_or_ge i N with hiN | hiN
      · have hoN : ∃ o, ops[N]? = some o := ⟨ops[N]'(by omega), Array.getElem?_eq_getElem (by omega)⟩
        obtain ⟨oN, hoN⟩ := hoN
        have := ht.before hcl hoN (hcl N oN hoN hN) _ i hiN (Nat.le_refl _)
        rw [h2] at this; cases this
      · have hi2 : i = N ∨ i = N + 1 := by omega
        rcases hi2 with rfl | rfl
        · rw [h2] at hN; cases hN
        · rw [h2] at hN1; cases hN1
  · rintro listed a w hls ⟨hcl, hI⟩ hr
    have hready : ∀ i, i < ops.size → listed.getD i false = true := by
      intro i
      induction i using Nat.strongRecOn with
      | _ i ih =>
        intro hi
        rcases hl : listed.getD i false with _ | _
        · have hmem : i ∈ Region.ready .any ops listed := by
            simp only [Region.ready, List.mem_filter, List.mem_range, Bool.and_eq_true, Bool.not_eq_true']
            refine ⟨hi, by rw [getD_true_false (by omega)]; exact hl, ?_⟩
            rw [Array.getElem?_eq_getElem hi]
            simp only [Option.map_some, Option.getD_some]
            rw [Array.all_eq_true_iff_forall_mem]
            intro e he
            have hlt := ht.lex i _ (Array.getElem?_eq_getElem hi) e (by simpa using he)
            simp [ih e.on hlt (by omega)]
          rw [hr] at hmem; cases hmem
        · rfl
    rcases hI with ⟨hN, _⟩ | ⟨_, hN1, _⟩ | ⟨_, hQ⟩
    · rw [hready N (by omega)] at hN; cases hN
    · rw [hready (N + 1) (by omega)] at hN1; cases hN1
    · exact hQ
  · simp
  · have : (Array.replicate ops.size false).getD i false = false := by
      simp only [Array.getD_eq_getD_getElem?, Array.getElem?_replicate]; split <;> rfl
    rw [this] at h; cases h
  · simp only [Array.getD_eq_getD_getElem?, Array.getElem?_replicate]; split <;> rfl
  · simp only [Array.getD_eq_getD_getElem?, Array.getElem?_replicate]; split <;> rfl
  · have : (Array.replicate ops.size false).getD i false = false := by
      simp only [Array.getD_eq_getD_getElem?, Array.getElem?_replicate]; split <;> rfl
    rw [this] at h; cases h
end
end
theorem Same.frame {a0 a : Act} {lo N : Nat} (h : Same a0 lo N a) (hsz : lo + N ≤ a0.tmps.size) :
    a = { tmps := (a0.tmps.toList.take lo ++ (List.range N).map (fun i => a.tmps.getD (lo + i) undef) ++ a0.tmps.toList.drop (lo + N)).toArray, defers := a0.defers } := by
  obtain ⟨t, d⟩ := a
  have hd := h.defers
  have hs := h.size
  simp only at hd hs
  subst hd
  congr 1
  apply Array.ext'
  apply List.ext_getElem?
  intro k
  have hg : ∀ j, j < t.size → t.toList[j]? = some (t.getD j undef) := fun j hj => by simp [Array.getD, hj]
  have hg0 : ∀ j, j < a0.tmps.size → a0.tmps.toList[j]? = some (a0.tmps.getD j undef) := fun j hj => by simp [Array.getD, hj]
  rcases Nat.lt_or_ge k t.size with hk | hk
  · rw [hg k hk]
    rcases Nat.lt_or_ge k lo with h1 | h1
    · rw [List.getElem?_append_left (by simp; omega), List.getElem?_append_left (by simp; omega), List.getElem?_take, if_pos h1, hg0 k (by omega), h.out k (.inl h1)]
    · rcases Nat.lt_or_ge k (lo + N) with h2 | h2
      · rw [List.getElem?_append_left (by simp; omega), List.getElem?_append_right (by simp; omega)]
        have e : min lo a0.tmps.size = lo := by omega
        simp [e, List.getElem?_map, List.getElem?_range (show k - lo < N by omega), show lo + (k - lo) = k by omega]
      · rw [List.getElem?_append_right (by simp; omega)]
        have e : min lo a0.tmps.size = lo := by omega
        simp only [List.length_append, List.length_take, List.length_map, List.length_range, Array.length_toList, e, List.getElem?_drop]
        rw [show lo + N + (k - (lo + N)) = k by omega, hg0 k (by omega), h.out k (.inr h2)]
  · rw [List.getElem?_eq_none (by simpa using hk), List.getElem?_eq_none (by simp; omega)]
section
variable {o : Oper} {a : Act} {w w' : World} {n l : Nat} {next : Act → World → Prop} {Q : Exit → Act → World → Prop} {v : Value}
theorem wpR_val (hnc : ∀ c, o.op ≠ .defer c) (hrun : (execOp a.eval o).run Tryz.prog w = .ok (.value v) w') (h : next (a.put o.dst v) w') : o.wpIn (Fence.wide.inRound l) n Tryz.prog a w next Q :=
  ⟨fun _ _ => trivial, by rw [show (Fence.wide.inRound l).round = some l from rfl, Oper.semAt_eq _ _ _ (fun c h => hnc c h), hrun]; exact h⟩
theorem wpR_call {f : FuncId} {args : Array Value} {R : Value → World → Prop} (hnc : ∀ c, o.op ≠ .defer c) (hrun : (execOp a.eval o).run Tryz.prog w = .ok (.enter f args) w')
    (hc : Calls Tryz.prog f args w' fun e w'' => ∃ v, e = .returned v ∧ R v w'') (h : ∀ v w'', R v w'' → next (a.put o.dst v) w'') : o.wpIn (Fence.wide.inRound l) n Tryz.prog a w next Q :=
  ⟨fun _ _ => trivial, by
    rw [show (Fence.wide.inRound l).round = some l from rfl, Oper.semAt_eq _ _ _ (fun c h => hnc c h), hrun]
    refine ⟨fun hh => by simp [Fence.inRound, Fence.wide] at hh, ?_⟩
    show CallsIn Fence.wide _ _ _ _ _ _
    refine callsIn_wide.2 (hc.mono ?_)
    rintro e w'' ⟨v, rfl, hR⟩
    exact h v w'' hR⟩
theorem wpListIn_selR (s : Nat) {ops : Array Oper} {rest : List Oper} {F : Fence} {op : Op} {t : TypeId} {p : String} {af : Array Edge} {g : Option (Nat × Bool)} (h : wpListIn F n Tryz.prog ops Q (⟨some s, op, t, p, af, g⟩ :: rest) a w) : wpListIn F n Tryz.prog ops Q (⟨some s, op, t, p, af, g⟩ :: rest) a w := h
theorem wpListIn_valR {ops : Array Oper} {rest : List Oper} (hg : o.guard = none) (hnc : ∀ c, o.op ≠ .defer c) (hrun : (execOp a.eval o).run Tryz.prog w = .ok (.value v) w') (h : wpListIn (Fence.wide.inRound l) n Tryz.prog ops Q rest (a.put o.dst v) w') : wpListIn (Fence.wide.inRound l) n Tryz.prog ops Q (o :: rest) a w :=
  wpListIn_plain hg fun _ hK => ⟨fun _ _ => trivial, by
    rw [show (Fence.wide.inRound l).round = some l from rfl, Oper.semAt_eq _ _ _ (fun c h => hnc c h), hrun]
    exact hK _ _ h⟩
theorem r_fld {T i : Nat} (x : Operand) (ad : Value) (ho : o.op = .fieldAddr T x i) (hx : a.eval x = ad) (hf : (Instr.fieldAt T ad i).run Tryz.prog w = .ok v w) : (execOp a.eval o).run Tryz.prog w = .ok (.value v) w := by
  unfold execOp; simp only [ho, hx, Sem.run_bind, hf, Result.andThen_ok]; rfl
theorem r_call2 {f : FuncId} (x y : Operand) (u v : Value) (T : Array TypeId) (ho : o.op = .call { callee := .value (.func f), args := #[x, y], argTypes := T }) (hx : a.eval x = u) (hy : a.eval y = v)
    (he : ∀ args w, (callFunc f args).run Tryz.prog w = .ok (.enter f args) w) : (execOp a.eval o).run Tryz.prog w = .ok (.enter f #[u, v]) w := by
  have hf : a.eval (.func f) = .func (.func f) #[] #[] := rfl
  unfold execOp
  simp only [ho, resolve, List.map_toArray, List.map_cons, List.map_nil, hx, hy, hf]
  simp [go_sem, he]
theorem r_call3 {f : FuncId} (x y z : Operand) (u v q : Value) (T : Array TypeId) (ho : o.op = .call { callee := .value (.func f), args := #[x, y, z], argTypes := T }) (hx : a.eval x = u) (hy : a.eval y = v) (hz : a.eval z = q)
    (he : ∀ args w, (callFunc f args).run Tryz.prog w = .ok (.enter f args) w) : (execOp a.eval o).run Tryz.prog w = .ok (.enter f #[u, v, q]) w := by
  have hf : a.eval (.func f) = .func (.func f) #[] #[] := rfl
  unfold execOp
  simp only [ho, resolve, List.map_toArray, List.map_cons, List.map_nil, hx, hy, hz, hf]
  simp [go_sem, he]
theorem r_neg (x : Operand) (m : Int) (ho : o.op = .unOp .neg 3 x) (hx : a.eval x = .int .i64 m) (hm : -9223372036854775807 ≤ m ∧ m ≤ 9223372036854775807) : (execOp a.eval o).run Tryz.prog w = .ok (.value (.int .i64 (-m))) w := by
  have hwr : IntKind.i64.wrap (-m) = -m := IntWalk.i64_in _ (by omega)
  unfold execOp
  simp only [ho, hx]
  simp [go_sem, hwr]
theorem r_loadAt (T : TypeId) (x : Operand) (p u : Value) (ho : o.op = .load T x) (hx : a.eval x = p) (hr : (Instr.loadAt T p).run Tryz.prog w = .ok u w) : (execOp a.eval o).run Tryz.prog w = .ok (.value u) w := by
  unfold execOp
  simp only [ho, hx, Sem.run_bind, hr, Result.andThen_ok]
  rfl
end
end Go.Proofs
namespace Go.Proofs
open Go.RowKit Go.Shelf Go.Proofs.Ct Go.Maps
attribute [local simp, local go_sem] wide_fn wide_depth
attribute [local go_sem] Oper.semAt_some
theorem walk118 (w : World) (A0 A1 A2 : Option Addr) (n0 c0 n1 c1 n2 c2 : Nat) (r : Int) : Calls Tryz.prog 71 #[.agg #[.slice A0 n0 c0, .slice A1 n1 c1], .int .i64 r, .slice A2 n2 c2] w fun e w' =>
    e = .returned (.func (.func 93) #[] #[.pointer (some ⟨w.heap.size + 2, 0, none⟩), .pointer (some ⟨w.heap.size + 1, 0, none⟩), .pointer (some ⟨w.heap.size, 0, none⟩)]) ∧
    w' = allocs w [.cells #[.slice A0 n0 c0, .slice A1 n1 c1] 60, .cells #[.int .i64 r] 3, .cells #[.slice A2 n2 c2] 39] := by
  go_enter Tryz.func71, Tryz.ntmps71
  go_wp2_with fail
  go_ret
  exact ⟨rfl, rfl⟩
theorem runTo_rw (t : Tb) (R : List W) (g : Nat) (w : List Int) (r : Nat) : ∀ k, (rwTo t R g w r k).1 = runTo t w r k
  | 0 => rfl
  | k + 1 => by
    unfold rwTo runTo foldTo
    have := runTo_rw t R g w r k
    unfold rwTo runTo at this
    simp only [this]
theorem rwTo_succ (t : Tb) (R : List W) (g : Nat) (w : List Int) (r k : Nat) : (rwTo t R g w r (k + 1)).2 =
    if letN t R g (runTo t w r k) (w.getD k 0) ≠ 0 then (rwTo t R g w r k).2 ++ [letN t R g (runTo t w r k) (w.getD k 0)] else (rwTo t R g w r k).2 := by
  rw [← runTo_rw t R g w r k]
  rfl
theorem rwTo_len (t : Tb) (R : List W) (g : Nat) (w : List Int) (r : Nat) : ∀ k, (rwTo t R g w r k).2.length ≤ k
  | 0 => Nat.le_refl _
  | k + 1 => by
    have := rwTo_len t R g w r k
    rw [rwTo_succ]
    split
    · simp; omega
    · omega
theorem letN_bd {g : Nat} {t : Tb} (hg : TGood g t) (hs : Std t) (R : List W) {r : Nat} (hr : r < t.length) {x : Int} (hx : -(g : Int) ≤ x ∧ x ≤ g ∧ x ≠ 0) : -4000000 ≤ letN t R g r x ∧ letN t R g r x ≤ 4000000 := by
  have hg16 := hg.g16
  have hn2 := hg.n2
  obtain ⟨c, -, -, -, h4⟩ := stepW_at hg hs hr hx
  unfold letN
  split
  · have h1 := number_bd t R g r (x - 1).toNat
    have h2 : r * g ≤ 20000 * 16 := Nat.mul_le_mul (by omega) hg16
    omega
  · have h1 := number_bd t R g (stepW t r x) (-x - 1).toNat
    have h2 : stepW t r x * g ≤ 20000 * 16 := Nat.mul_le_mul (by omega) hg16
    omega
theorem rwTo_mild {g : Nat} {t : Tb} (hg : TGood g t) (hs : Std t) (R : List W) {w : List Int} (hw : LetsOk g w) {r : Nat} (hr : r < t.length) : ∀ k, k ≤ w.length → ∀ z ∈ (rwTo t R g w r k).2, Mild z
  | 0, _ => fun z hz => by cases hz
  | k + 1, hk => fun z hz => by
    rw [rwTo_succ] at hz
    have ih := rwTo_mild hg hs R hw hr k (by omega)
    split at hz
    · rcases List.mem_append.1 hz with h | h
      · exact ih z h
      · rw [List.mem_singleton] at h
        subst h
        have := letN_bd hg hs R (runTo_lt hg hs hw hr k (by omega)) (hw.at_ (by omega : k < w.length))
        unfold Mild
        omega
    · exact ih z hz
end Go.Proofs
