/- word.Cyclic: the cyclically reduced core; A range over a function whose values lie in memory that the iterator lays; the body may return; The iterator of pres.rotations; pres.least, pres.Least; word.Check where it accepts, pres.Least. -/
import Derived.Test.YtmmbmhjdnlmedaaTsCS10
import Derived.Test.YtmmbmhjdnlmedaaTsCS8
import Derived.Test.YtmmbmhjdnlmedaaTsCS3
import Derived.Deep.MidRow
import Derived.Deep.QuietTactic
import Derived.BigQuiet
import Derived.RangeFuncWrites
import Derived.RangeFuncNested
import Derived.RangeFuncCalls
import Derived.OwnWalkIn
import Derived.TacticsInMore
import Derived.LoopNIn
import Derived.LoopIn
import Derived.Test.YtmmbmhjdnlmedaaTsCS4
namespace Go.Proofs
open Go.RowKit Go.Shelf Go.Lib Go.Sort Go.Proofs.Ct Go.Proofs.Tz
/-! slices of words and of lists of words -/
theorem run_sl_lo {t : TypeId} (hu : Try.prog.underlying t = some (.slice (Try.prog.elem t))) (hs : ∀ w, (Go.sizeOf (Try.prog.elem t)).run Try.prog w = .ok 1 w) {o : Oper} {a : Act} {w : World} (x y : Operand) (A : Option Addr) (n c k : Nat) (ho : o.op = .slice t x (some y) none none) (hx : a.eval x = .slice A n c) (hy : a.eval y = .int .i64 (k : Int)) (hk : k ≤ n) : (execOp a.eval o).run Try.prog w = .ok (.value (sliced A k n c 1)) w := by
  have hs := hs w
  unfold execOp
  simp only [ho, hx, hy, Option.map_none, Option.map_some, Sem.run_bind, run_sliceAt_slice w t _ _ _ _ hu, run_slice_l w t A n c hu .i64 (k : Int) (by omega) (by omega)]
  simp [hs]
theorem run_sl_lohi {t : TypeId} (hu : Try.prog.underlying t = some (.slice (Try.prog.elem t))) (hs : ∀ w, (Go.sizeOf (Try.prog.elem t)).run Try.prog w = .ok 1 w) {o : Oper} {a : Act} {w : World} (x y z : Operand) (A : Option Addr) (n c k h : Nat) (ho : o.op = .slice t x (some y) (some z) none) (hx : a.eval x = .slice A n c) (hy : a.eval y = .int .i64 (k : Int)) (hz : a.eval z = .int .i64 (h : Int)) (hk : k ≤ h) (hc : h ≤ c) : (execOp a.eval o).run Try.prog w = .ok (.value (sliced A k h c 1)) w := by
  have hs := hs w
  unfold execOp
  simp only [ho, hx, hy, hz, Option.map_none, Option.map_some, Sem.run_bind, run_sliceAt_slice w t _ _ _ _ hu, run_slice_lh w t A n c hu .i64 .i64 (k : Int) (h : Int) (by omega) (by omega) (by omega)]
  simp [hs]
theorem under24w : Try.prog.underlying 24 = some (.slice (Try.prog.elem 24)) := by kernel_rfl
theorem under25w : Try.prog.underlying 25 = some (.slice (Try.prog.elem 25)) := by kernel_rfl
theorem size24w (w : World) : (Go.sizeOf (Try.prog.elem 24)).run Try.prog w = .ok 1 w := by kernel_rfl
theorem size25w (w : World) : (Go.sizeOf (Try.prog.elem 25)).run Try.prog w = .ok 1 w := by kernel_rfl
theorem ints_cut {w : World} {A : Option Addr} {c k h : Nat} {l : List Int} (hI : IntsAt w (.slice A l.length c) l) (hk : k ≤ h) (hh : h ≤ l.length) : ∃ A', sliced A k h c 1 = .slice A' (h - k) (c - k) ∧ IntsAt w (.slice A' (h - k) (c - k)) ((l.take h).drop k) := by
  obtain ⟨⟨A0, n, cap, e, h1, h2, h3, h4⟩, hf⟩ := hI
  obtain ⟨rfl, rfl, rfl⟩ := Value.slice.inj e
  refine ⟨_, rfl, ⟨_, _, _, rfl, by simp [ints]; omega, by omega, by omega, fun hp => ?_⟩, fun y hy => hf y (List.mem_of_mem_take (List.mem_of_mem_drop hy))⟩
  obtain ⟨b, off, rfl, hr⟩ := h4 (by omega)
  refine ⟨b, off + k, ?_, fun j v hj => ?_⟩
  · rw [if_neg (by omega), Nat.mul_one]
    exact congrArg some (Addr.add_mid b off k)
  · have hj' : (ints l)[k + j]? = some v := by
      simp only [ints, List.getElem?_map, List.getElem?_drop, List.getElem?_take] at hj ⊢
      split at hj
      · exact hj
      · simp at hj
    have := hr (k + j) v hj'
    rwa [show off + k + j = off + (k + j) by omega]
def lenV : Value → Nat
  | .slice _ n _ => n
  | _ => 0
/-- a slice of the call's own memory -/
def OwnPost (x : List Int) (w : World) (e : Ending) (w' : World) : Prop := ∃ A c, e = .returned (.slice A x.length c) ∧ OwnI w.heap.size w' (.slice A x.length c) x ∧ Below w.heap.size w w'
theorem OwnPost.base {x : List Int} {w w1 : World} {e : Ending} {w' : World} (hb : Below w.heap.size w w1) (h : OwnPost x w1 e w') : OwnPost x w e w' := by
  obtain ⟨A, c, h1, h2, h3⟩ := h
  exact ⟨A, c, h1, owns_base h2 hb.size, hb.trans (h3.mono hb.size)⟩
set_option maxRecDepth 100000 in
set_option maxHeartbeats 1000000 in
theorem cyclic60_any (w : World) (v : Value) (x : List Int) (h : IntsAt w v x) (hm : ∀ z ∈ x, Mild z) (hl : x.length ≤ 8000000) : Calls Try.prog 60 #[v] w (OwnPost (cyc x) w) := by
  have HRED := Lib.hid (reduce99_any w v x h hm hl)
  have hmr : ∀ z ∈ red x, Mild z := fun z hz => hm z (red_mem hz)
  have hlr := red_length x
  obtain ⟨A0, c0, rfl, -, -, -⟩ := h.open_
  have HC : Hid (cyc x = cycTo x.length (red x)) := Lib.hid rfl
  have HM := Lib.hid hmr
  generalize hR : cyc x = R at *
  have hRl : R.length ≤ x.length := by rw [← hR]; exact (cyc_sub x).2
  clear h hm hR hmr
  unfold OwnPost
  go_enter Try.func60, Try.ntmps60
  go_wp2_with fail
  refine HRED.out.mono ?_
  rintro e w1 ⟨A, c, rfl, ho, hb⟩
  have HO := Lib.hid (OwnI.ints ho (Mild.fits HM.out))
  have HB := Lib.hid hb
  clear ho hb HRED
  generalize red x = r at *
  go_wp2_with fail
  go_loopw [0] (fun z wr => ∃ (u : List Int) (n A c : _), z = .slice A u.length c ∧ Hid (IntsAt w1 (.slice A u.length c) u ∧ (∀ y ∈ u, Mild y) ∧ R = cycTo n u) ∧ u.length ≤ n ∧ u.length ≤ 8000000 ∧ ∃ q, wr = w1.drewN q) (fun z _ => lenV z)
  case atStart => exact ⟨r, x.length, A, c, rfl, Lib.hid ⟨HO.out, HM.out, HC.out⟩, hlr, by omega, 0, rfl⟩
  case round =>
    obtain ⟨u, n, A, c, rfl, HU, hun, hu8, q, rfl⟩ := hrel
    have hu0 : (0 : Int) ≤ (u.length : Int) := Int.natCast_nonneg _
    have hu1 : (u.length : Int) ≤ 8000000 := by omega
    by_cases h1 : 1 < u.length
    · have h1' : 1 < (u.length : Int) := by omega
      obtain ⟨m, hm⟩ : ∃ m, u.length = m + 1 := ⟨u.length - 1, by omega⟩
      obtain ⟨n', rfl⟩ : ∃ n', n = n' + 1 := ⟨n - 1, by omega⟩
      obtain ⟨A', c', e1, -, -, hc⟩ := HU.out.1.open_
      injection e1 with e1 e2 e3
      subst e1 e3
      obtain ⟨b, o, rfl, hcc⟩ := hc (by omega)
      have hc0 : w1.cell? ⟨b, o + 0, none⟩ = some (.int .i64 (u.getD 0 0)) := hcc 0 (by omega)
      rw [Nat.add_zero] at hc0
      have hcm := hcc m (by omega)
      have HOP := Lib.hid fun W => opp134_any W (u.getD 0 0) (u.getD m 0) (Mild.at_ HU.out.2.1 0) (Mild.at_ HU.out.2.1 m)
      have HSTEP : Hid (cycTo (n' + 1) u = if opp (u.getD 0 0) (u.getD m 0) = true then cycTo n' ((u.drop 1).take (u.length - 2)) else u) := Lib.hid (by
        rw [cycTo, show u.length - 1 = m by omega]
        by_cases ho : opp (u.getD 0 0) (u.getD m 0) = true
        · rw [if_pos ⟨h1, ho⟩, if_pos ho]
        · rw [if_neg (fun h => ho h.2), if_neg ho])
      obtain ⟨A2, hs, hi⟩ := ints_cut (k := 1) (h := m) HU.out.1 (by omega) (by omega)
      have hl2 : ((u.take m).drop 1).length = m - 1 := by rw [List.length_drop, List.length_take]; omega
      have HSL := Lib.hid hs
      have HI2 := Lib.hid hi
      have HL2 := Lib.hid hl2
      have hcap : m ≤ c := by
        obtain ⟨A', c', e1, h5, -, -⟩ := HU.out.1.open_
        injection e1 with e1 e2 e3
        omega
      have hEQ : (u.drop 1).take (u.length - 2) = (u.take m).drop 1 := by rw [List.drop_take, hm]; congr 1
      have HEQ := Lib.hid hEQ
      have HM' := Lib.hid hm
      have hmI : (u.length : Int) - 1 = (m : Int) := by omega
      have hm0 : (0 : Int) ≤ (m : Int) := Int.natCast_nonneg _
      have hm1 : 1 ≤ (m : Int) := by omega
      have hmlt : (m : Int) < (u.length : Int) := by omega
      have hmlt' : m < u.length := by omega
      have h0lt : (0 : Int) < (u.length : Int) := by omega
      have hmw : IntKind.i64.wrap (m : Int) = (m : Int) := by simp [IntKind.wrap, IntKind.bits, IntKind.signed]; omega
      have h0lt' : 0 < u.length := by omega
      clear hcc hc e2 h1 hs hi hl2 hEQ hm
      generalize u.getD 0 0 = y at *
      generalize u.getD m 0 = z at *
      have hd : decide (1 < (u.length : Int)) = true := decide_eq_true (by omega)
      cases ho : opp y z with
      | true =>
        rw [ho] at HOP
        have HS2 : Hid (cycTo (n' + 1) u = cycTo n' ((u.take m).drop 1)) := Lib.hid (by rw [HSTEP.out, ho, if_pos rfl, HEQ.out])
        go_wp2_with fail
        go_quiet ((go_at_call 55; exact quiet_add_left (HOP.out _)))
        go_wp2_with ((with_reducible refine wpList_sel 24 ?_); refine wpList_val rfl (run_sl_lohi under24w size24w (.tmp 20) (.const (.int .i64 1)) (.tmp 23) _ _ _ 1 m rfl rfl rfl rfl (by omega) hcap) ?_)
        have hSL : sliced (some ⟨b, o, none⟩) 1 m c 1 = .slice (if c = 1 then some ⟨b, o, none⟩ else some ⟨b, o + 1, none⟩) (m - 1) (c - 1) := by
          unfold sliced
          have : (c - 1 = 0) ↔ c = 1 := by omega
          simp [Addr.add_mid]
        rw [HSL.out] at hSL
        injection hSL with hA
        rw [← hA]
        go_roundw
        case rel => exact ⟨(u.take m).drop 1, n', A2, c - 1, by rw [HL2.out], Lib.hid ⟨by rw [HL2.out]; exact HI2.out, fun y hy => HU.out.2.1 y (List.mem_of_mem_take (List.mem_of_mem_drop hy)), by rw [HU.out.2.2, HS2.out]⟩, by have := HL2.out; omega, by have := HL2.out; omega, _, rfl⟩
        case measure => simp [lenV]; omega
      | false =>
        rw [ho] at HOP
        have HS2 : Hid (R = u) := Lib.hid (by rw [HU.out.2.2, HSTEP.out, ho, if_neg (by simp)])
        have HCL : Hid (∀ r, Calls Try.prog 41 #[.slice (some ⟨b, o, none⟩) u.length c] (w1.drewN r) fun e w' => ∃ A9 c9, e = .returned (.slice A9 u.length c9) ∧ OwnI w1.heap.size w' (.slice A9 u.length c9) u ∧ Below w1.heap.size w1 w') := Lib.hid fun r => (clone71_any (w1.drewN r) _ u (HU.out.1.drewN r) (by omega)).mono fun e w' ⟨A9, c9, h3, h4, h5⟩ => ⟨A9, c9, h3, h4, (below_drewN (Below.refl _ _) r).trans h5⟩
        go_wp2_with fail
        go_quiet ((go_at_call 55; exact quiet_add_left (HOP.out _)))
        go_wp2_with (first
          | (go_at_call 41; (refine (HCL.out _).mono ?_); rintro e w' ⟨A9, c9, rfl, ho, hb⟩))
        go_ret
        have := HS2.out
        subst this
        exact ⟨_, _, rfl, owns_base ho HB.out.size, HB.out.trans (hb.mono HB.out.size)⟩
    · have h1' : (u.length : Int) ≤ 1 := by omega
      have HE : Hid (R = u) := Lib.hid (by
        rw [HU.out.2.2]
        cases n with
        | zero => rfl
        | succ n => rw [cycTo, if_neg (fun h => h1 h.1)])
      have hd : decide (1 < (u.length : Int)) = false := decide_eq_false (by omega)
      have HCL : Hid (∀ r, Calls Try.prog 41 #[.slice A u.length c] (w1.drewN r) fun e w' => ∃ A9 c9, e = .returned (.slice A9 u.length c9) ∧ OwnI w1.heap.size w' (.slice A9 u.length c9) u ∧ Below w1.heap.size w1 w') := Lib.hid fun r => (clone71_any (w1.drewN r) (.slice A u.length c) u (HU.out.1.drewN r) (by omega)).mono fun e w' ⟨A9, c9, h3, h4, h5⟩ => ⟨A9, c9, h3, h4, (below_drewN (Below.refl _ _) r).trans h5⟩
      clear h1 h1'
      go_wp2_with fail
      go_quiet (fail)
      go_wp2_with (first
        | (go_at_call 41; (refine (HCL.out _).mono ?_); rintro e w' ⟨A9, c9, rfl, ho, hb⟩))
      go_ret
      have := HE.out
      subst this
      exact ⟨_, _, rfl, owns_base ho HB.out.size, HB.out.trans (hb.mono HB.out.size)⟩
end Go.Proofs
namespace Go.Proofs
open Go.RowKit Go.Shelf Go.Proofs.Ct Go.Maps
theorem wideF (f : FuncId) : Fence.wide.fn f := trivial
theorem wideD : Fence.wide.depth = none := rfl
/-- how the body of a round may be left: it goes on, or returns -/
def goesOnV (B : Nat) (Kp : World → World → Prop) (I Ix : World → Prop) (W : World) : Exit → Act → World → Prop
  | .normal, _, W' => KeepsFrom B W W' ∧ Kp W W' ∧ I W'
  | .ret, _, W' => KeepsFrom B W W' ∧ Ix W'
  | _, _, _ => False
theorem wpIn_rangeVals {α : Type} {n : Nat} {g : Operand} {ps : Array Tmp} {assign body : Code} {Q : Exit → Act → World → Prop} {a : Act} {w : World}
    {gf : Nat} {lb : Array Value} (hg : a.eval g = .func (.func gf) #[] lb) (eg : ∀ args w, (callFunc gf args).run Try.prog w = .ok (.enter gf args) w)
    {encs : α → Array Value} (N : Nat) (El : Nat → α → World → Prop) (Kp : World → World → Prop)
    (hKt : ∀ {A B C : World}, Kp A B → Kp B C → Kp A C) (hKb : ∀ (W : World) (l : Nat) (o o' : Obj), w.heap.size ≤ l → W.heap[l]? = some o → o.isCells = false → Kp W (W.putObj l o')) (hps : ∀ x, (encs x).size = ps.size)
    (hEl : ∀ k x A (l : Nat) (o o' : Obj), El k x A → w.heap.size ≤ l → A.heap[l]? = some o → o.isCells = false → El k x (A.putObj l o'))
    (hseq : ∀ (l : Nat) (J Jx : Nat → World → Prop) (W : World), Below w.heap.size w W →
      (∀ k A B, J k A → Below A.heap.size A B → J k B) → (∀ k A B, Jx k A → Below A.heap.size A B → Jx k B) →
      (∀ k x W1, J k W1 → k < N → El k x W1 → YieldAt Fence.wide (n - 1 - 1) Try.prog l (encs x) W1 fun e W' => (e = .returned (.bool true) ∧ J (k + 1) W' ∧ Kp W1 W') ∨ (e = .returned (.bool false) ∧ Jx (k + 1) W')) →
      J 0 W → CallsIn Fence.wide (n - 1) Try.prog gf (#[.func (.yield l) #[] #[]] ++ lb) W fun e W' => (∃ v, e = .returned v) ∧ (J N W' ∨ ∃ k, Jx k W'))
    (I Ix : Nat → World → Prop) (hIa : ∀ k A B, I k A → Below A.heap.size A B → I k B) (hXa : ∀ k A B, Ix k A → Below A.heap.size A B → Ix k B)
    (hIp : ∀ k A l (o o' : Obj), I k A → w.heap.size ≤ l → A.heap[l]? = some o → o.isCells = false → I k (A.putObj l o'))
    (hXp : ∀ k A l (o o' : Obj), Ix k A → w.heap.size ≤ l → A.heap[l]? = some o → o.isCells = false → Ix k (A.putObj l o'))
    (h0 : I 0 w) (a₁ : α → Act)
    (hassign : ∀ (l : Nat) (x : α) (W : World) (K : Act → World → Prop), K (a₁ x) W →
      assign.wpIn (Fence.wide.inRound l) (n - 1 - 1) Try.prog (Exit.then K (fun _ _ _ => False)) { tmps := (ps.zip (encs x)).foldl (fun t (p, v) => t.setIfInBounds p v) a.tmps, defers := [] } W)
    (hbody : ∀ (l : Nat) (k : Nat) (x : α) (W : World), I k W → k < N → El k x W → w.heap.size ≤ W.heap.size → body.wpIn (Fence.wide.inRound l) (n - 1 - 1) Try.prog (goesOnV w.heap.size Kp (I (k + 1)) (Ix (k + 1)) W) (a₁ x) W)
    (hdone : ∀ (D : Nat) (W : World), w.heap.size ≤ D → I N W → W.heap[D]? = some (.deferred (some [])) → Q .normal { a with defers := { target := .collected D, args := #[] } :: a.defers } W)
    (hstop : ∀ (D : Nat) (k : Nat) (W : World), w.heap.size ≤ D → Ix k W → W.heap[D]? = some (.deferred (some [])) → Code.ret.wpIn Fence.wide n Try.prog Q { a with defers := { target := .collected D, args := #[] } :: a.defers } W) :
    (Code.rangeFunc g ps assign body).wpIn Fence.wide n Try.prog Q a w := by
  refine wpIn_rangeFunc ?_
  intro fn hfn
  obtain ⟨rec, hrec⟩ : ∃ rec : LoopState → Option Code → Loop, rec = fun st pe => { state := st, pending := pe, fn, tmps := a.tmps, params := ps, assign, body, defers := w.heap.size } := ⟨_, rfl⟩
  obtain ⟨W1, hW1⟩ : ∃ W1, (w.alloc (.deferred (some []))).alloc (.loop (rec .ready none)) = W1 := ⟨_, rfl⟩
  have hL1 : W1.heap[w.heap.size + 1]? = some (.loop (rec .ready none)) := by
    rw [← hW1]; have := World.alloc_heap_new (w.alloc (.deferred (some []))) (.loop (rec .ready none)); rwa [World.size_alloc] at this
  have hK1 : W1.heap[w.heap.size]? = some (.deferred (some [])) := by
    rw [← hW1]; exact (Below.heap_alloc _ _ _ (by simp)).trans (World.alloc_heap_new w _)
  have hb1 : Below w.heap.size w W1 := by
    rw [← hW1]; exact ((Below.refl _ w).alloc (Nat.le_refl _) _).alloc (by simp) _
  have hI1 : I 0 W1 := hIa _ _ _ h0 hb1
  refine ⟨w.heap.size + 1, [{ target := .collected w.heap.size, args := #[] }], W1, { target := .fn (.func gf) lb, args := #[.func (.yield (w.heap.size + 1)) #[] #[]] }, W1, gf,
    #[.func (.yield (w.heap.size + 1)) #[] #[]] ++ lb, W1, ?_, ?_, ?_, ?_, fun h => (by simp [wideD] at h), ?_⟩
  · rw [← hW1, hrec]; exact run_enterLoop_outer _ _ _ _ _
  · simp only [resolve, hg]
    simp [go_sem]
  · intro f' _; trivial
  · simp [invoke, go_sem, eg]
  · refine (hseq (w.heap.size + 1)
      (fun k W => I k W ∧ W.heap[w.heap.size + 1]? = some (.loop (rec .ready none)) ∧ W.heap[w.heap.size]? = some (.deferred (some [])))
      (fun k W => Ix k W ∧ W.heap[w.heap.size + 1]? = some (.loop (rec .done (some .ret))) ∧ W.heap[w.heap.size]? = some (.deferred (some [])))
      W1 hb1
      (fun k A B hs hb => ⟨hIa k A B hs.1 hb, (hb.block _ (Array.getElem?_eq_some_iff.1 hs.2.1).1).trans hs.2.1, (hb.block _ (Array.getElem?_eq_some_iff.1 hs.2.2).1).trans hs.2.2⟩)
      (fun k A B hs hb => ⟨hXa k A B hs.1 hb, (hb.block _ (Array.getElem?_eq_some_iff.1 hs.2.1).1).trans hs.2.1, (hb.block _ (Array.getElem?_eq_some_iff.1 hs.2.2).1).trans hs.2.2⟩)
      ?_ ⟨hI1, hL1, hK1⟩).mono ?_
    · -- ONE ROUND
      rintro k x W ⟨hi, hl, hk⟩ hlen hel
      have hlt : w.heap.size + 1 < W.heap.size := (Array.getElem?_eq_some_iff.1 hl).1
      have hy := run_yield (P := Try.prog) (args := encs x) hl (by rw [hrec]; exact hps x)
      rw [hrec] at hy
      refine ⟨fn, _, assign, body, hy, roundIn_of_wpIn hfn (hassign _ x W _ ⟨_, run_beginRound hl (by rw [hrec]), ?_⟩)⟩
      obtain ⟨Wb, hWb⟩ : ∃ Wb, Wb = W.putObj (w.heap.size + 1) (.loop { rec .ready none with state := .busy }) := ⟨_, rfl⟩
      have hl2 : Wb.heap[w.heap.size + 1]? = some (.loop { rec .ready none with state := .busy }) := by rw [hWb]; exact World.putObj_heap_same hlt
      have hk2 : Wb.heap[w.heap.size]? = some (.deferred (some [])) := by rw [hWb]; exact (World.putObj_heap_other (by omega)).trans hk
      have hi2 : I k Wb := by rw [hWb]; exact hIp k W (w.heap.size + 1) _ _ hi (by omega) hl rfl
      have he2 : El k x Wb := by rw [hWb]; exact hEl k x W (w.heap.size + 1) _ _ hel (by omega) hl rfl
      have hw2 : Kp W Wb := by rw [hWb]; exact hKb _ _ _ _ (by omega) hl rfl
      have hs2 : W.heap.size = Wb.heap.size := by rw [hWb]; simp
      rw [← hWb]
      refine wpIn_mono (hbody _ k x Wb hi2 hlen he2 (by omega)) ?_
      rintro e a3 W3 hp
      cases e with
      | normal =>
        obtain ⟨ht, hkp, hi3⟩ := hp
        have hl3 := ht.same _ _ (by omega) hl2 rfl
        have hk3 := ht.same _ _ (Nat.le_refl _) hk2 rfl
        have hsz3 := ht.size
        have hr := run_endRound (P := Try.prog) none hl3
        rw [hrec] at hr
        refine ⟨_, _, hr, .inl ⟨rfl, ⟨hIp _ _ _ _ _ hi3 (by omega) hl3 rfl, ?_, (World.putObj_heap_other (by omega)).trans hk3⟩, ?_⟩⟩
        · rw [hrec]; exact World.putObj_heap_same (by omega)
        · exact hKt (hKt hw2 hkp) (hKb _ _ _ _ (by omega) hl3 rfl)
      | ret =>
        obtain ⟨ht, hi3⟩ := hp
        have hl3 := ht.same _ _ (by omega) hl2 rfl
        have hk3 := ht.same _ _ (Nat.le_refl _) hk2 rfl
        have hsz3 := ht.size
        have hr := run_endRound (P := Try.prog) (some .ret) hl3
        rw [hrec] at hr
        refine ⟨_, _, hr, .inr ⟨rfl, ⟨hXp _ _ _ _ _ hi3 (by omega) hl3 rfl, ?_, (World.putObj_heap_other (by omega)).trans hk3⟩⟩⟩
        rw [hrec]; exact World.putObj_heap_same (by omega)
      | exit id => exact hp.elim
      | goto t => exact hp.elim
      | panic ch => exact hp.elim
      | outgrown => exact hp.elim
    · -- BEHIND THE ITERATOR
      rintro e W2 ⟨⟨v, rfl⟩, (⟨hi, hl, hk⟩ | ⟨k, hi, hl, hk⟩)⟩
      · exact ⟨none, _, by have := run_endLoop (P := Try.prog) hl (by rw [hrec]; simp); rw [hrec] at this; exact this, hdone _ _ (Nat.le_refl _) (hIp _ _ _ _ _ hi (by omega) hl rfl) ((World.putObj_heap_other (by omega)).trans hk)⟩
      · exact ⟨some .ret, _, by have := run_endLoop (P := Try.prog) hl (by rw [hrec]; simp); rw [hrec] at this; exact this, hstop _ k _ (Nat.le_refl _) (hXp _ _ _ _ _ hi (by omega) hl rfl) ((World.putObj_heap_other (by omega)).trans hk)⟩
end Go.Proofs
namespace Go.Proofs
open Go.RowKit Go.Shelf Go.Proofs.Ct Go.Proofs.Tz Go.Maps
attribute [local simp, local go_sem] wideF wideD
attribute [local go_sem] Oper.semAt_some
section
variable {o : Oper} {a : Act} {w w' : World} {n : Nat} {next : Act → World → Prop} {Q : Exit → Act → World → Prop} {v : Value}
theorem wpF_val (hrun : (execOp a.eval o).run Try.prog w = .ok (.value v) w') (h : next (a.put o.dst v) w') : o.wpIn Fence.wide n Try.prog a w next Q :=
  ⟨fun _ _ => trivial, by rw [Fence.wide_round, Oper.semAt_none, hrun]; exact h⟩
theorem wpF_call {f : FuncId} {args : Array Value} {R : Value → World → Prop} (hrun : (execOp a.eval o).run Try.prog w = .ok (.enter f args) w')
    (hc : Calls Try.prog f args w' fun e w'' => ∃ v, e = .returned v ∧ R v w'') (h : ∀ v w'', R v w'' → next (a.put o.dst v) w'') : o.wpIn Fence.wide n Try.prog a w next Q :=
  ⟨fun _ _ => trivial, by
    rw [Fence.wide_round, Oper.semAt_none, hrun]
    refine ⟨fun hh => by simp at hh, callsIn_wide.2 (hc.mono ?_)⟩
    rintro e w'' ⟨v, rfl, hR⟩
    exact h v w'' hR⟩
theorem agg24w (w : World) : (isAgg 24).run Try.prog w = .ok false w := by kernel_rfl
theorem r_ld24 (x : Operand) (ad : Addr) (ho : o.op = .load 24 x) (hx : a.eval x = .pointer (some ad)) (hc : w.cell? ad = some v) : (execOp a.eval o).run Try.prog w = .ok (.value v) w := by
  unfold execOp
  simp only [ho, hx, Instr.loadAt, Instr.sureAddr, loadVar, Sem.run_bind, Sem.run_pure, Result.andThen_ok, agg24w]
  simp [go_sem, hc]
theorem run_sl_hi {t : TypeId} (hu : Try.prog.underlying t = some (.slice (Try.prog.elem t))) (hs : ∀ w, (Go.sizeOf (Try.prog.elem t)).run Try.prog w = .ok 1 w) (x z : Operand) (A : Option Addr) (n c h : Nat) (ho : o.op = .slice t x none (some z) none) (hx : a.eval x = .slice A n c) (hz : a.eval z = .int .i64 (h : Int)) (hc : h ≤ c) : (execOp a.eval o).run Try.prog w = .ok (.value (sliced A 0 h c 1)) w := by
  have hs := hs w
  unfold execOp
  simp only [ho, hx, hz, Option.map_none, Option.map_some, Sem.run_bind, run_sliceAt_slice w t _ _ _ _ hu, run_slice_h w t A n c hu .i64 (h : Int) (by omega) (by omega)]
  simp [hs]
theorem bs25_2 (A B : Option Addr) (n c m d : Nat) (w : World) : (Instr.buildSlice 25 2 #[(0, .slice A n c), (1, .slice B m d)]).run Try.prog w = .ok (.slice (some ⟨w.heap.size, 0, none⟩) 2 2) (w.alloc (.cells #[.slice A n c, .slice B m d] 24)) := by kernel_rfl
theorem r_bs25 (x y : Operand) (A B : Option Addr) (n c m d : Nat) (ho : o.op = .buildSlice 25 2 #[(0, x), (1, y)]) (hx : a.eval x = .slice A n c) (hy : a.eval y = .slice B m d) : (execOp a.eval o).run Try.prog w = .ok (.value (.slice (some ⟨w.heap.size, 0, none⟩) 2 2)) (w.alloc (.cells #[.slice A n c, .slice B m d] 24)) := by
  have hb := bs25_2 A B n c m d w
  unfold execOp
  simp only [ho, List.map_toArray, List.map_cons, List.map_nil, hx, hy, Sem.run_bind, hb, Result.andThen_ok]
  rfl
theorem r_call1 {f : FuncId} (x : Operand) (u : Value) (T : Array TypeId) (ho : o.op = .call { callee := .value (.func f), args := #[x], argTypes := T }) (hx : a.eval x = u)
    (he : ∀ args w, (callFunc f args).run Try.prog w = .ok (.enter f args) w) : (execOp a.eval o).run Try.prog w = .ok (.enter f #[u]) w := by
  have hf : a.eval (.func f) = .func (.func f) #[] #[] := rfl
  unfold execOp
  simp only [ho, resolve, List.map_toArray, List.map_cons, List.map_nil, hx, hf]
  simp [go_sem, he]
end
theorem r_not {o : Oper} {a : Act} {w : World} (x : Operand) (b : Bool) (ho : o.op = .unOp .not 4 x) (hx : a.eval x = .bool b) : (execOp a.eval o).run Try.prog w = .ok (.value (.bool (!b))) w := by
  unfold execOp
  simp only [ho, hx]
  simp [go_sem]
theorem call39 (args : Array Value) (w : World) : (callFunc 39 args).run Try.prog w = .ok (.enter 39 args) w := enters_of Try.func39 (by kernel_rfl) rfl args w
/-- a word of memory laid since the heap had B blocks -/
def FreshW (B : Nat) (x : Value) (u : List Int) (W : World) : Prop := ∃ A c, x = .slice A u.length c ∧ OwnI B W x u
set_option maxRecDepth 100000 in
set_option maxHeartbeats 2000000 in
theorem rot73 (n l bw B : Nat) (J Jx : Nat → World → Prop) (W w0 : World) (A : Option Addr) (c : Nat) (v : List Int)
    (hbox : w0.heap[bw]? = some (.cells #[.slice A v.length c] 24 (0, 0))) (hv : IntsAt w0 (.slice A v.length c) v) (hl : v.length ≤ 1000000) (hW : Below w0.heap.size w0 W) (hB : B ≤ W.heap.size)
    (hJa : ∀ k A B, J k A → Below A.heap.size A B → J k B)
    (hY : ∀ k x W1, J k W1 → k < v.length → FreshW B x (rot v k) W1 → YieldAt Fence.wide (n - 1) Try.prog l #[x] W1 fun e W' => (e = .returned (.bool true) ∧ J (k + 1) W' ∧ Below w0.heap.size W1 W') ∨ (e = .returned (.bool false) ∧ Jx (k + 1) W'))
    (h0 : J 0 W) :
    CallsIn Fence.wide n Try.prog 73 #[.func (.yield l) #[] #[], .pointer (some ⟨bw, 0, none⟩)] W fun e W' => (∃ v, e = .returned v) ∧ (J v.length W' ∨ ∃ k, Jx k W') := by
  have HJA := Lib.hid hJa
  have HY := Lib.hid hY
  have H0 := Lib.hid h0
  have HV := Lib.hid hv
  have HBX := Lib.hid hbox
  have HW := Lib.hid hW
  have HBB := Lib.hid hB
  have hcb : W.cell? ⟨bw, 0, none⟩ = some (.slice A v.length c) := by
    rw [hW.cell (World.block_lt_of_cell? w0 _ (show w0.cell? ⟨bw, 0, none⟩ = some (.slice A v.length c) by rw [cell_of_row _ _ _ _ _ _ hbox]; rfl)), cell_of_row _ _ _ _ _ _ hbox]; rfl
  have HL := Lib.hid hl
  have hl1 : (v.length : Int) ≤ 1000000 := by omega
  have hl0 : (0 : Int) ≤ (v.length : Int) := Int.natCast_nonneg _
  clear hJa hY h0 hv hbox hW hl hB
  gi_enter Try.func73, Try.ntmps73
  gi_wp2_with fail
  gi_loopw [6] (fun i wr => ∃ k : Nat, i = .int .i64 k ∧ k ≤ v.length ∧ Hid (J k wr ∧ Below w0.heap.size w0 wr ∧ B ≤ wr.heap.size)) (fun i _ => v.length - (intOf i).toNat)
  case atStart => exact ⟨0, rfl, by omega, Lib.hid ⟨H0.out, HW.out, HBB.out⟩⟩
  case round =>
    obtain ⟨k, rfl, hk, HS⟩ := hrel
    have hk0 : (0 : Int) ≤ (k : Int) := Int.natCast_nonneg _
    by_cases hlt : k < v.length
    · have hlt' : (k : Int) < (v.length : Int) := by omega
      have hcap : v.length ≤ c := by
        obtain ⟨A', c', e1, h5, -, -⟩ := HV.out.open_
        injection e1 with e1 e2 e3
        omega
      have hbl : bw < w0.heap.size := (Array.getElem?_eq_some_iff.1 HBX.out).1
      have HC2 : Hid (∀ w', Below w0.heap.size w0 w' → w'.cell? ⟨bw, 0, none⟩ = some (.slice A v.length c)) := Lib.hid fun w' h => by
        rw [cell_of_row _ _ _ _ _ _ ((h.block bw hbl).trans HBX.out)]; rfl
      obtain ⟨A1, hs1, hi1⟩ := ints_cut (k := k) (h := v.length) HV.out hk (Nat.le_refl _)
      obtain ⟨A2, hs2, hi2⟩ := ints_cut (k := 0) (h := k) HV.out (Nat.zero_le _) hk
      rw [List.take_length] at hi1
      rw [List.drop_zero, Nat.sub_zero, Nat.sub_zero] at hi2
      rw [Nat.sub_zero, Nat.sub_zero] at hs2
      have HS1 := Lib.hid hs1
      have HS2 := Lib.hid hs2
      have HI1 := Lib.hid hi1
      have HI2 := Lib.hid hi2
      have HCAT : Hid (∀ (w' : World) (u : Value), Tab w' u [v.drop k, v.take k] → B ≤ w'.heap.size → Calls Try.prog 39 #[u] w' fun e w'' => ∃ x, e = .returned x ∧ FreshW B x (rot v k) w'' ∧ Below w'.heap.size w' w'') := Lib.hid fun w' u htab hB => by
        refine (concat100_any _ _ _ htab (by simp [sumTo, Ct.foldTo]; have := HL.out; omega)).mono fun e w'' (⟨A, c, h1, h2, h3⟩ : CatPost _ _ e w'') => ⟨_, h1, ?_, h3⟩
        have e1 : flatTo [v.drop k, v.take k] [v.drop k, v.take k].length = rot v k := by simp [flatTo, Ct.foldTo, Tz.rot]
        rw [e1] at h2
        rw [e1]
        exact ⟨A, c, rfl, owns_base h2 hB⟩
      have HPAIR : Hid (∀ w' : World, Below w0.heap.size w0 w' → Tab (w'.alloc (.cells #[.slice A1 (v.length - k) (c - k), .slice A2 k c] 24)) (.slice (some ⟨w'.heap.size, 0, none⟩) 2 2) [v.drop k, v.take k]) := Lib.hid fun w' h => by
        have h1 := HI1.out.below h
        have h2 := HI2.out.below h
        have := tab_two w' _ _ _ _ h1 h2 (e := 24)
        exact this
      clear hs1 hs2 hi1 hi2
      gi_wp2_with fail
      refine wpIn_region_tail (by kernel_rfl) 9 9 (tailed_of (by kernel_rfl)) (fun w' => Below w0.heap.size w0 w' ∧ B ≤ w'.heap.size ∧ Below wr.heap.size wr w')
        (fun q u W' => if q = 7 then Tab W' u [v.drop k, v.take k] else if q = 8 then FreshW B u (rot v k) W' else u = [Value.func (.yield l) #[] #[], .slice A v.length c, .int .i64 k, .slice A1 (v.length - k) (c - k), .slice A v.length c, .int .i64 k, .slice A2 k c].getD q undef)
        (fun w w' => Below w.heap.size w w') ?_ (Nat.le_of_ble_eq_true rfl) ⟨HS.out.2.1.drew, HS.out.2.2, (Below.refl _ _).drew⟩ ?_ ?_
      · intro q u W' W'' hb hq
        split at hq
        · rw [if_pos (by assumption)]; exact kept_tab.below hq hb
        · rw [if_neg (by assumption)]
          split at hq
          · rw [if_pos (by assumption)]
            obtain ⟨A3, c3, h1, h2⟩ := hq
            exact ⟨A3, c3, h1, owns_below h2 hb⟩
          · rw [if_neg (by assumption)]; exact hq
      · intro q o a w4 hq ho hS hsame hpre
        have hcases : q = 0 ∨ q = 1 ∨ q = 2 ∨ q = 3 ∨ q = 4 ∨ q = 5 ∨ q = 6 ∨ q = 7 ∨ q = 8 := by omega
        have hst : ∀ w5, Below w4.heap.size w4 w5 → (Below w0.heap.size w0 w5 ∧ B ≤ w5.heap.size ∧ Below wr.heap.size wr w5) := fun w5 hb => ⟨hS.1.trans (hb.mono hS.1.size), Nat.le_trans hS.2.1 hb.size, hS.2.2.trans (hb.mono hS.2.2.size)⟩
        rcases hcases with rfl | rfl | rfl | rfl | rfl | rfl | rfl | rfl | rfl
        · obtain rfl := Option.some.inj ho; exact ⟨rfl, rfl, (by exact wpF_val (r_move (.tmp 0) rfl (hsame.out 0 (.inl (by decide)))) ⟨_, rfl, hS, Below.refl _ _, rfl⟩)⟩
        · obtain rfl := Option.some.inj ho; exact ⟨rfl, rfl, (by exact wpF_val (r_ld24 (.tmp 1) ⟨bw, 0, none⟩ rfl (hsame.out 1 (.inl (by decide))) (HC2.out _ hS.1)) ⟨_, rfl, hS, Below.refl _ _, rfl⟩)⟩
        · obtain rfl := Option.some.inj ho; exact ⟨rfl, rfl, (by exact wpF_val (r_move (.tmp 3) rfl (hsame.out 3 (.inl (by decide)))) ⟨_, rfl, hS, Below.refl _ _, rfl⟩)⟩
        · obtain rfl := Option.some.inj ho; exact ⟨rfl, rfl, (by exact wpF_val (run_sl_lo under24w size24w (.tmp 10) (.tmp 11) A v.length c k rfl (hpre ⟨1, .data⟩ (by simp) rfl) (hpre ⟨2, .data⟩ (by simp) rfl) hk) ⟨_, rfl, hS, Below.refl _ _, HS1.out⟩)⟩
        · obtain rfl := Option.some.inj ho; exact ⟨rfl, rfl, (by exact wpF_val (r_ld24 (.tmp 1) ⟨bw, 0, none⟩ rfl (hsame.out 1 (.inl (by decide))) (HC2.out _ hS.1)) ⟨_, rfl, hS, Below.refl _ _, rfl⟩)⟩
        · obtain rfl := Option.some.inj ho; exact ⟨rfl, rfl, (by exact wpF_val (r_move (.tmp 3) rfl (hsame.out 3 (.inl (by decide)))) ⟨_, rfl, hS, Below.refl _ _, rfl⟩)⟩
        · obtain rfl := Option.some.inj ho; exact ⟨rfl, rfl, (by exact wpF_val (run_sl_hi under24w size24w (.tmp 13) (.tmp 14) A v.length c k rfl (hpre ⟨4, .data⟩ (by simp) rfl) (hpre ⟨5, .data⟩ (by simp) rfl) (by omega)) ⟨_, rfl, hS, Below.refl _ _, HS2.out⟩)⟩
        · obtain rfl := Option.some.inj ho; exact ⟨rfl, rfl, (by exact wpF_val (r_bs25 (.tmp 12) (.tmp 15) A1 A2 _ _ _ _ rfl (hpre ⟨3, .data⟩ (by simp) rfl) (hpre ⟨6, .data⟩ (by simp) rfl)) ⟨_, rfl, hst _ ((Below.refl _ _).alloc (Nat.le_refl _) _), (Below.refl _ _).alloc (Nat.le_refl _) _, HPAIR.out _ hS.1⟩)⟩
        · obtain rfl := Option.some.inj ho; exact ⟨rfl, rfl, (by exact wpF_call (r_call1 (.tmp 16) _ _ rfl rfl call39) (HCAT.out w4 _ (hpre ⟨7, .data⟩ (by simp) rfl) hS.2.1) (fun u w5 h => ⟨u, rfl, hst _ h.2, h.2, h.1⟩))⟩
      · intro a W2 hS hsame hsl
        have e0 : a.tmps.getD 9 undef = .func (.yield l) #[] #[] := hsl 0 (by omega)
        obtain ⟨x, hx⟩ : ∃ x, x = a.tmps.getD 17 undef := ⟨_, rfl⟩
        have e8 : FreshW B x (rot v k) W2 := by rw [hx]; exact hsl 8 (by omega)
        have hj2 : J k W2 := HJA.out _ _ _ HS.out.1 hS.2.2
        obtain ⟨fn, tmps, assign, body, hy, hR⟩ := HY.out k x W2 hj2 hlt e8
        have HSS := Lib.hid hS
        have hfr := hsame.frame (Nat.le_of_ble_eq_true rfl)
        refine wpOpIn_of rfl rfl ⟨fun _ _ => trivial, ?_⟩
        rw [Fence.wide_round, Oper.semAt_none]
        have hrun : ∀ o : Oper, o.op = .call { callee := .value (.tmp 9), args := #[.tmp 17], argTypes := #[24] } → (execOp a.eval o).run Try.prog W2 = .ok (.round l fn tmps assign body) W2 := fun o ho => by
          unfold execOp
          have h1 : a.eval (.tmp 9) = .func (.yield l) #[] #[] := e0
          have h2 : a.eval (.tmp 17) = x := hx.symm
          simp only [ho, resolve, List.map_toArray, List.map_cons, List.map_nil, h1, h2]
          simp [go_sem, hy]
        rw [hrun _ rfl]
        refine ⟨fun hh => by simp at hh, hR.mono ?_⟩
        rintro e W3 (⟨rfl, hj, hkp⟩ | ⟨rfl, hj⟩)
        · refine wpOpIn_of rfl rfl (wpF_val (r_not (.tmp 18) true rfl (put_getD_same _ _ _ (by rw [hsame.size]; exact Nat.le_of_ble_eq_true rfl))) ?_)
          have HS3 := Lib.hid (show J (k + 1) W3 ∧ Below w0.heap.size w0 W3 ∧ B ≤ W3.heap.size from ⟨hj, HSS.out.1.trans hkp, Nat.le_trans HSS.out.2.1 hkp.size⟩)
          clear hS hsl e0 e8 hj2 hy hR hrun hj hkp hx HSS
          generalize (fun i => a.tmps.getD (9 + i) undef) = vs at hfr
          subst hfr
          simp only [Act.put, List.take_succ_cons, List.take_zero, List.drop_succ_cons, List.drop_zero, List.map_cons, List.map_nil, List.range, List.range.loop, List.cons_append, List.nil_append, List.setIfInBounds_toArray, Nat.reduceAdd]
          gi_wp2_with fail
          exact ⟨⟨k + 1, by go_num, by omega, HS3⟩, by simp [intOf]; omega⟩
        · refine wpOpIn_of rfl rfl (wpF_val (r_not (.tmp 18) false rfl (put_getD_same _ _ _ (by rw [hsame.size]; exact Nat.le_of_ble_eq_true rfl))) ?_)
          have HJX := Lib.hid hj
          clear hS hsl e0 e8 hj2 hy hR hrun hj hx HSS
          generalize (fun i => a.tmps.getD (9 + i) undef) = vs at hfr
          subst hfr
          simp only [Act.put, List.take_succ_cons, List.take_zero, List.drop_succ_cons, List.drop_zero, List.map_cons, List.map_nil, List.range, List.range.loop, List.cons_append, List.nil_append, List.setIfInBounds_toArray, Nat.reduceAdd]
          gi_wp2_with fail
          exact bodyPost_ret (results_none rfl _ _ _) rfl ⟨⟨_, rfl⟩, .inr ⟨_, HJX.out⟩⟩
    · have hlt' : ¬ (k : Int) < (v.length : Int) := by omega
      have hke : k = v.length := by omega
      subst hke
      gi_wp2_with fail
      go_end0
      exact ⟨⟨_, rfl⟩, .inl HS.out.1⟩
end Go.Proofs
namespace Go.Proofs
open Go.RowKit Go.Shelf Go.Lib Go.Sort Go.Proofs.Ct Go.Proofs.Tz Go.Maps
attribute [local simp, local go_sem] wideF wideD
attribute [local go_sem] Oper.semAt_some
theorem rotations62_any (w : World) (v : Value) (x : List Int) (h : IntsAt w v x) : Calls Try.prog 62 #[v] w fun e w' => e = .returned (.func (.func 73) #[] #[.pointer (some ⟨w.heap.size, 0, none⟩)]) ∧ w' = w.alloc (.cells #[v] 24) := by
  obtain ⟨A, c, rfl, -, -, -⟩ := h.open_
  clear h
  go_enter Try.func62, Try.ntmps62
  go_wp2_with fail
  go_ret
  exact ⟨rfl, rfl⟩
theorem cell_putObj {A : World} {p : Addr} {v : Value} {l : Nat} {o o' : Obj} (h : A.cell? p = some v) (ho : A.heap[l]? = some o) (hn : o.isCells = false) : (A.putObj l o').cell? p = some v := by
  have hne : p.block ≠ l := fun e => by
    unfold World.cell? at h
    rw [e, ho] at h
    cases o <;> simp_all [Obj.isCells]
  rw [World.cell?_of_block (World.putObj_heap_other hne)]
  exact h
theorem ints_putObj {A : World} {u : Value} {x : List Int} {l : Nat} {o o' : Obj} (h : IntsAt A u x) (ho : A.heap[l]? = some o) (hn : o.isCells = false) : IntsAt (A.putObj l o') u x := by
  obtain ⟨⟨A0, n, cap, h1, h2, h3, h4, h5⟩, hf⟩ := h
  refine ⟨⟨A0, n, cap, h1, h2, h3, h4, fun hp => ?_⟩, hf⟩
  obtain ⟨b, off, e, hr⟩ := h5 hp
  exact ⟨b, off, e, fun j v hv => cell_putObj (hr j v hv) ho hn⟩
theorem fresh_putObj {B : Nat} {A : World} {u : Value} {x : List Int} {l : Nat} {o o' : Obj} (h : FreshW B u x A) (ho : A.heap[l]? = some o) (hn : o.isCells = false) : FreshW B u x (A.putObj l o') := by
  obtain ⟨A0, c, rfl, h1, h2⟩ := h
  refine ⟨A0, c, rfl, h1, ?_⟩
  rcases h2 with h2 | ⟨g, cap, cur, e, hB, hg, h3⟩
  · exact .inl h2
  · refine .inr ⟨g, cap, cur, e, hB, ?_, h3⟩
    have hne : g ≠ l := fun e => by subst e; rw [ho] at hg; cases hg; cases hn
    rw [World.putObj_heap_other hne]
    exact hg
theorem FreshW.below {B : Nat} {A A' : World} {u : Value} {x : List Int} (h : FreshW B u x A) (hb : Below A.heap.size A A') : FreshW B u x A' := by
  obtain ⟨A0, c, rfl, h1⟩ := h
  exact ⟨A0, c, rfl, owns_below h1 hb⟩
/-- a word of memory of the call's own is not in a box below -/
theorem FreshW.set {B : Nat} {A : World} {u z : Value} {x : List Int} {b : Nat} (h : FreshW B u x A) (hb : b < B) : FreshW B u x (A.setCell ⟨b, 0, none⟩ z) := by
  obtain ⟨A0, c, rfl, h1, h2⟩ := h
  refine ⟨A0, c, rfl, h1, ?_⟩
  rcases h2 with h2 | ⟨g, cap, cur, e, hB, hg, h3⟩
  · exact .inl h2
  · exact .inr ⟨g, cap, cur, e, hB, (Below.heap_setCell A ⟨b, 0, none⟩ z g (by show g ≠ b; omega)).trans hg, h3⟩
theorem FreshW.ints {B : Nat} {A : World} {u : Value} {x : List Int} (h : FreshW B u x A) (hf : Fits x) : IntsAt A u x := by
  obtain ⟨A0, c, rfl, h1⟩ := h
  exact OwnI.ints h1 hf
theorem mild_rot {v : List Int} (h : ∀ z ∈ v, Mild z) (k : Nat) : ∀ z ∈ rot v k, Mild z := fun z hz => h z (mem_rot hz)
theorem mild_best {v b : List Int} (hv : ∀ z ∈ v, Mild z) (hb : ∀ z ∈ b, Mild z) (k : Nat) : ∀ z ∈ bestTo v b k, Mild z := by
  rcases bestTo_is v b k with e | ⟨j, -, e⟩ <;> rw [e]
  · exact hb
  · exact mild_rot hv j
/-- what the range over the rotations keeps: the boxes, the best word so far -/
structure LstSt (w : World) (b : Nat) (y : List Int) (W : World) : Prop where
  below : Below w.heap.size w W
  size : w.heap.size + 2 ≤ W.heap.size
  cmp : W.heap[w.heap.size + 1]? = some (.cells #[.func (.func 46) #[] #[]] 84 (0, 0))
  first : ∃ u, W.heap[w.heap.size]? = some (.cells #[u] 24 (0, 0)) ∧ IntsAt W u y
theorem LstSt.step {w : World} {b : Nat} {y : List Int} {A B : World} (h : LstSt w b y A) (hb : Below A.heap.size A B) : LstSt w b y B := by
  obtain ⟨u, h1, h2⟩ := h.first
  have hs := h.size
  exact ⟨h.below.trans (hb.mono h.below.size), Nat.le_trans h.size hb.size, (hb.block _ (by omega)).trans h.cmp, u, (hb.block _ (by omega)).trans h1, h2.below hb⟩
theorem LstSt.put {w : World} {b : Nat} {y : List Int} {A : World} {l : Nat} {o o' : Obj} (h : LstSt w b y A) (hl : w.heap.size + 2 ≤ l) (ho : A.heap[l]? = some o) (hn : o.isCells = false) : LstSt w b y (A.putObj l o') := by
  obtain ⟨u, h1, h2⟩ := h.first
  exact ⟨h.below.trans ⟨rfl, rfl, rfl, by simp, fun k hk => World.putObj_heap_other (by omega)⟩, by simp; exact h.size, (World.putObj_heap_other (by omega)).trans h.cmp, u, (World.putObj_heap_other (by omega)).trans h1, ints_putObj h2 ho hn⟩
theorem LstSt.set {w : World} {b : Nat} {y z : List Int} {A : World} {u : Value} (h : LstSt w b y A) (hu : FreshW (w.heap.size + 2) u z A) (hf : Fits z) : LstSt w b z (A.setCell ⟨w.heap.size, 0, none⟩ u) := by
  obtain ⟨u0, h1, -⟩ := h.first
  have hne : ∀ k, k ≠ w.heap.size → (A.setCell ⟨w.heap.size, 0, none⟩ u).heap[k]? = A.heap[k]? := fun k hk => Below.heap_setCell A ⟨w.heap.size, 0, none⟩ _ k hk
  refine ⟨h.below.trans ⟨rfl, rfl, rfl, by simp [World.setCell], fun k hk => hne k (by omega)⟩, by simp [World.setCell]; exact h.size, (hne _ (by omega)).trans h.cmp, u, ?_, (hu.set (by omega)).ints hf⟩
  simp [World.setCell, Array.getElem?_modify, h1]
/-- the activation in a round -/
def bare61 (vf vg : Value) (b : Nat) (x7 x9 : Value) : Act :=
  { tmps := #[vf, vg, .func (.func 46) #[] #[], .pointer (some ⟨b, 0, none⟩), undef, .pointer (some ⟨b + 1, 0, none⟩), .slice none 0 0, x7, vg, x9, undef, undef, undef, undef, undef, undef, undef], defers := [] }
set_option maxRecDepth 100000 in
set_option maxHeartbeats 4000000 in
theorem least61_in (n : Nat) (w : World) (vf : Value) (A : Option Addr) (c bw : Nat) (v b : List Int) (hbox : w.heap[bw]? = some (.cells #[.slice A v.length c] 24 (0, 0))) (hv : IntsAt w (.slice A v.length c) v) (hf : IntsAt w vf b) (hl : v.length ≤ 1000000)
    (hmv : ∀ z ∈ v, Mild z) (hmb : ∀ z ∈ b, Mild z) :
    CallsIn Fence.wide n Try.prog 61 #[vf, .func (.func 73) #[] #[.pointer (some ⟨bw, 0, none⟩)], .func (.func 46) #[] #[]] w fun e w' => ∃ u, e = .returned u ∧ IntsAt w' u (bestTo v b v.length) ∧ Below w.heap.size w w' := by
  obtain ⟨A0, c0, rfl, -, -, -⟩ := hf.open_
  have HBX := Lib.hid hbox
  have HV := Lib.hid hv
  have HF := Lib.hid hf
  have HL := Lib.hid hl
  have HMV := Lib.hid hmv
  have HMB := Lib.hid hmb
  clear hbox hv hf hl hmv hmb
  refine callsIn_of_wp_marks Try.func61 rfl trivial ?_ rfl
  simp only [Try.ntmps61, List.size_toArray, List.length_cons, List.length_nil, Nat.reduceAdd, Nat.reduceSub, Array.replicate_succ, Array.replicate_zero, List.push_toArray, List.append_toArray, List.nil_append, List.cons_append]
  gi_wp2_with fail
  obtain ⟨W1, hW1⟩ : ∃ W1, (w.alloc (.cells #[.slice A0 b.length c0] 24)).alloc (.cells #[.func (.func 46) #[] #[]] 84) = W1 := ⟨_, rfl⟩
  have hs1 : W1.heap.size = w.heap.size + 2 := by rw [← hW1]; simp
  have hb1 : Below w.heap.size w W1 := by rw [← hW1]; exact ((Below.refl _ w).alloc (Nat.le_refl _) _).alloc (by simp) _
  have ho1 : W1.heap[w.heap.size + 1]? = some (.cells #[.func (.func 46) #[] #[]] 84 (0, 0)) := by rw [← hW1]; have := heap_alloc_new (w.alloc (.cells #[.slice A0 b.length c0] 24)) (.cells #[.func (.func 46) #[] #[]] 84); rwa [World.size_alloc] at this
  have ho0 : W1.heap[w.heap.size]? = some (.cells #[.slice A0 b.length c0] 24 (0, 0)) := by rw [← hW1]; exact (Below.heap_alloc _ _ _ (by simp)).trans (heap_alloc_new w _)
  have HST : Hid (LstSt w 0 (bestTo v b 0) W1) := Lib.hid ⟨hb1, by omega, ho1, _, ho0, HF.out.below hb1⟩
  rw [hW1]
  clear hW1 ho1 ho0
  refine wpIn_rangeVals (α := Value) (gf := 73) (lb := #[.pointer (some ⟨bw, 0, none⟩)]) rfl (enters_of Try.func73 (by kernel_rfl) rfl) (encs := fun x => #[x]) v.length (fun k x W => FreshW (w.heap.size + 2) x (rot v k) W) (fun A B => Below w.heap.size A B)
    (fun h k => h.trans k) (fun W l o o' hl ho hn => ⟨rfl, rfl, rfl, by simp, fun k hk => World.putObj_heap_other (by omega)⟩) (fun _ => rfl) (fun k x A l o o' h hl ho hn => fresh_putObj h ho hn)
    (fun l J Jx W hb hJa hJx hY h0 => rot73 (n - 1) l bw (w.heap.size + 2) J Jx W w A c v HBX.out HV.out HL.out (hb1.trans (hb.mono hb1.size)) (by have := hb.size; omega) hJa hY h0)
    (fun k W => LstSt w 0 (bestTo v b k) W) (fun _ _ => False) (fun k A B h hb => h.step hb) (fun _ _ _ h _ => h) (fun k A l o o' h hl ho hn => h.put (by omega) ho hn) (fun _ _ _ _ _ h _ _ _ => h)
    HST.out (fun x => bare61 (.slice A0 b.length c0) (.func (.func 73) #[] #[.pointer (some ⟨bw, 0, none⟩)]) w.heap.size x x) ?assign ?body ?done (fun _ _ _ _ h => h.elim)
  case assign =>
    rintro l x W K hK
    gi_wp2_with (rw [Oper.semAt_eq _ _ _ (fun c h => by cases h)]; go_simp)
    exact hK
  case body =>
    rintro l k x W hI hk hel hsz
    obtain ⟨u, h1, h2⟩ := hI.first
    have hcf : W.cell? ⟨w.heap.size, 0, none⟩ = some u := by rw [cell_of_row _ _ _ _ _ _ h1]; rfl
    have hcm : W.cell? ⟨w.heap.size + 1, 0, none⟩ = some (.func (.func 46) #[] #[]) := by rw [cell_of_row _ _ _ _ _ _ hI.cmp]; rfl
    have HSUCC : Hid (bestTo v b (k + 1) = if cmpW (rot v k) (bestTo v b k) < 0 then rot v k else bestTo v b k) := Lib.hid rfl
    have hmr := mild_rot HMV.out k
    have hmb := mild_best HMV.out HMB.out k
    have HC := Lib.hid (cmp46_any W x u (rot v k) (bestTo v b k) (hel.ints (Mild.fits hmr)) h2 hmr hmb)
    have HI := Lib.hid hI
    have HEL := Lib.hid hel
    have HFR := Lib.hid (Mild.fits hmr)
    have HSZ := Lib.hid hsz
    obtain ⟨A5, c5, rfl, -⟩ := hel
    obtain ⟨A6, c6, rfl, -, -, -⟩ := h2.open_
    clear hI h1 hmr hmb h2 hsz
    generalize rot v k = y at *
    generalize bestTo v b k = z at *
    generalize bestTo v b (k + 1) = z' at *
    simp only [bare61]
    by_cases hlt : cmpW y z < 0
    · have HZ : Hid (z' = y) := Lib.hid (by rw [HSUCC.out, if_pos hlt])
      have hd : decide (cmpW y z < 0) = true := decide_eq_true hlt
      generalize cmpW y z = r at *
      clear hlt HSUCC
      gi_wp2_with (first
        | (refine CallsIn.mono (show CallsIn Fence.wide _ _ _ _ _ _ from callsIn_wide.2 HC.out) ?_; rintro e W2 ⟨rfl, hg⟩
           have HG := Lib.hid hg
           have HI2 := Lib.hid (HI.out.step hg.below)
           have HE2 := Lib.hid (HEL.out.below hg.below)
           obtain ⟨u2, h3, -⟩ := HI2.out.first
           have hc2 : W2.cell? ⟨w.heap.size, 0, none⟩ = some u2 := by rw [cell_of_row _ _ _ _ _ _ h3]; rfl
           have hf2 : W2.frozen? ⟨w.heap.size, 0, none⟩ = false := by simp [World.frozen?, h3]
           clear hg h3)
        | (rw [Oper.semAt_eq _ _ _ (fun c h => by cases h)]; go_simp))
      have hSt := HI2.out.set HE2.out HFR.out
      have hwz : w.heap.size + 2 ≤ W.heap.size := HI.out.size
      refine ⟨⟨by simp [World.setCell]; exact HG.out.below.size, fun k o hk ho hn => ?_⟩, ?_, by rw [HZ.out]; exact hSt⟩
      · exact (Below.heap_setCell W2 ⟨w.heap.size, 0, none⟩ _ k (by show k ≠ w.heap.size; omega)).trans ((HG.out.below.block k (Array.getElem?_eq_some_iff.1 ho).1).trans ho)
      · exact (HG.out.below.mono (by omega)).trans ⟨rfl, rfl, rfl, by simp [World.setCell], fun k hk => Below.heap_setCell W2 ⟨w.heap.size, 0, none⟩ _ k (by show k ≠ w.heap.size; omega)⟩
    · have HZ : Hid (z' = z) := Lib.hid (by rw [HSUCC.out, if_neg hlt])
      have hd : decide (cmpW y z < 0) = false := decide_eq_false hlt
      generalize cmpW y z = r at *
      clear hlt HSUCC
      gi_wp2_with (first
        | (refine CallsIn.mono (show CallsIn Fence.wide _ _ _ _ _ _ from callsIn_wide.2 HC.out) ?_; rintro e W2 ⟨rfl, hg⟩
           have HG := Lib.hid hg
           have HI2 := Lib.hid (HI.out.step hg.below)
           clear hg)
        | (rw [Oper.semAt_eq _ _ _ (fun c h => by cases h)]; go_simp))
      have hwz : w.heap.size + 2 ≤ W.heap.size := HI.out.size
      exact ⟨⟨HG.out.below.size, fun k o hk ho hn => (HG.out.below.block k (Array.getElem?_eq_some_iff.1 ho).1).trans ho⟩, HG.out.below.mono (by omega), by rw [HZ.out]; exact HI2.out⟩
  case done =>
    rintro D W hD hI hDD
    obtain ⟨u, h1, h2⟩ := hI.first
    have hcf : W.cell? ⟨w.heap.size, 0, none⟩ = some u := by rw [cell_of_row _ _ _ _ _ _ h1]; rfl
    have HI := Lib.hid hI
    have HU := Lib.hid h2
    have HDD := Lib.hid hDD
    obtain ⟨A6, c6, rfl, -, -, -⟩ := h2.open_
    clear h2 hI hDD h1
    gi_wp2_with fail
    refine ⟨by simp, .inl ⟨_, _, rfl, run_takeDeferred HDD.out, ?_⟩⟩
    refine ⟨_, results_tmp rfl _ _ _, ?_⟩
    exact ⟨_, rfl, ints_putObj HU.out HDD.out rfl, HI.out.below.trans ⟨rfl, rfl, rfl, by simp, fun k hk => World.putObj_heap_other (by omega)⟩⟩
end Go.Proofs
namespace Go.Proofs
open Go.RowKit Go.Shelf Go.Lib Go.Sort Go.Proofs.Ct Go.Proofs.Tz Go.Maps
theorem mild_ok {g : Nat} (hg : g ≤ 1000) {x : List Int} (h : LOk g x) : ∀ z ∈ x, Mild z := fun z hz => by
  have := h z hz
  unfold Mild
  omega
set_option maxRecDepth 100000 in
theorem check59_ok (w : World) (u : Value) (x : List Int) (hu : IntsAt w u x) (hok : LOk 16 x) (hl : x.length ≤ 4000) : Calls Try.prog 59 #[u, .int .i64 16] w fun e w' => e = .returned (.int .i64 0) ∧ ∃ q, w' = w.drewN q := by
  obtain ⟨A, c, rfl, h1, h2, hc⟩ := hu.open_
  have HC := Lib.hid hc
  have HOK := Lib.hid hok
  have hx0 : (0 : Int) ≤ (x.length : Int) := Int.natCast_nonneg _
  have hx1 : (x.length : Int) ≤ 4000 := by omega
  clear hc hok hu
  go_enter Try.func59, Try.ntmps59
  go_wp2_with fail
  go_loopw [18] (fun z wr => ∃ k : Nat, k ≤ x.length ∧ z = .int .i64 k ∧ ∃ q, wr = w.drewN q) (fun z _ => x.length - (intOf z).toNat)
  case atStart => exact ⟨0, by omega, rfl, 0, rfl⟩
  case round =>
    obtain ⟨k, hk, rfl, q, rfl⟩ := hrel
    by_cases hkx : k < x.length
    · have hkx' : (k : Int) < (x.length : Int) := by omega
      obtain ⟨b, o, rfl, hcc⟩ := HC.out (by omega)
      have hcx := hcc k hkx
      obtain ⟨g1, g2, g3⟩ := HOK.out.getD hkx
      have HK := Lib.hid hkx
      clear hcc hkx
      generalize x.getD k 0 = z at *
      have d1 : (z == 0) = false := by simpa using g3
      have d2 : z ≤ 16 := by omega
      have d3 : -16 ≤ z := by omega
      clear g1 g2 g3
      go_wp2_with fail
      go_roundw
      case rel => exact ⟨k + 1, by have := HK.out; omega, by go_num, _, rfl⟩
      case measure => have := HK.out; simp [intOf]; omega
    · have hkx' : ¬ (k : Int) < (x.length : Int) := by omega
      obtain rfl : k = x.length := by omega
      go_wp2_with fail
      go_ret
      exact ⟨rfl, _, rfl⟩
theorem leastOf_mild {v : List Int} (h : ∀ z ∈ v, Mild z) : ∀ z ∈ leastZ v, Mild z := by
  unfold leastZ
  exact mild_best (fun z hz => mild_inv h z (Ct.red_mem hz)) (mild_best h h _) _
set_option maxRecDepth 100000 in
set_option maxHeartbeats 1000000 in
theorem least44_any (w : World) (u : Value) (x : List Int) (hu : IntsAt w u x) (hok : LOk 16 x) (hl : x.length ≤ 4000) : Calls Try.prog 44 #[u] w (OwnPost (leastW x) w) := by
  have hm := mild_ok (by omega) hok
  have HCH := Lib.hid (check59_ok w u x hu hok hl)
  have HCY : Hid (∀ q, Calls Try.prog 60 #[u] (w.drewN q) (OwnPost (cyc x) w)) := Lib.hid fun q => (cyclic60_any (w.drewN q) u x (hu.drewN q) hm (by omega)).mono fun e w' h => OwnPost.base (below_drewN (Below.refl _ _) q) h
  have hmc : ∀ z ∈ cyc x, Mild z := fun z hz => hm z ((cyc_sub x).1 z hz)
  have hlc : (cyc x).length ≤ 4000 := Nat.le_trans (cyc_sub x).2 hl
  have HE : Hid (leastW x = bestTo (invW (cyc x)) (bestTo (cyc x) (cyc x) (cyc x).length) (invW (cyc x)).length) := Lib.hid rfl
  have HMC := Lib.hid hmc
  have hli : (invW (cyc x)).length ≤ 4000 := by
    have := Ct.red_length (inv (cyc x))
    rw [Ct.length_inv] at this
    unfold Ct.invW
    omega
  have hmi : ∀ z ∈ invW (cyc x), Mild z := fun z hz => mild_inv hmc z (Ct.red_mem hz)
  have HMI := Lib.hid hmi
  have hlb : (bestTo (cyc x) (cyc x) (cyc x).length).length ≤ 4000 := by
    rcases bestTo_is (cyc x) (cyc x) (cyc x).length with e | ⟨j, hj, e⟩ <;> rw [e]
    · exact hlc
    · rw [length_rot _ (by omega)]; exact hlc
  have hmb := mild_best hmc hmc (cyc x).length
  have HMB := Lib.hid hmb
  have HI : Hid (∀ W v, IntsAt W v (cyc x) → Calls Try.prog 22 #[v] W (RedPost (inv (cyc x)) W)) := Lib.hid fun W v h => invert72_any W v (cyc x) h hmc (by omega)
  have HIE : Hid (invW (cyc x) = red (inv (cyc x))) := Lib.hid rfl
  obtain ⟨A, c, rfl, -, -, -⟩ := hu.open_
  clear hm hmc hmi hmb hu hok
  have hll : (leastW x).length ≤ 4000 := Nat.le_trans (leastW_len x) hl
  generalize leastW x = R at *
  generalize cyc x = v at *
  go_enter Try.func44, Try.ntmps44
  go_wp2_with (first
    | (go_at_call 59; (with_reducible refine HCH.out.mono ?_); rintro e w' ⟨rfl, q, rfl⟩)
    | (go_at_call 60; (with_reducible refine (HCY.out _).mono ?_); rintro e w1 ⟨A1, c1, rfl, ho, hb⟩
       have HV1 := Lib.hid (OwnI.ints ho (Mild.fits HMC.out))
       have HB1 := Lib.hid hb
       clear ho hb))
  have H62 : Hid (∀ W A c, IntsAt W (.slice A v.length c) v → Calls Try.prog 62 #[.slice A v.length c] W fun e w' => e = .returned (.func (.func 73) #[] #[.pointer (some ⟨W.heap.size, 0, none⟩)]) ∧ w' = W.alloc (.cells #[.slice A v.length c] 24)) := Lib.hid fun W A c h => rotations62_any W _ v h
  refine (H62.out _ _ _ HV1.out).mono ?_
  rintro e w2 ⟨rfl, rfl⟩
  have hal : Below w1.heap.size w1 (w1.alloc (.cells #[.slice A1 v.length c1] 24)) := (Below.refl _ _).alloc (Nat.le_refl _) _
  have H61 := Lib.hid (callsIn_wide.1 (least61_in 0 (w1.alloc (.cells #[.slice A1 v.length c1] 24)) (.slice A1 v.length c1) A1 c1 w1.heap.size v v (heap_alloc_new w1 _) (HV1.out.below hal) (HV1.out.below hal) (by omega) HMC.out HMC.out))
  have HB2 := Lib.hid (HB1.out.trans (hal.mono HB1.out.size))
  have HV2 := Lib.hid (HV1.out.below hal)
  clear hal
  go_wp2_with fail
  refine H61.out.mono ?_
  rintro e w3 ⟨u3, rfl, hu3, hb3⟩
  have HB3 := Lib.hid (HB2.out.trans (hb3.mono HB2.out.size))
  have HV3 := Lib.hid (HV2.out.below hb3)
  have HU3 := Lib.hid hu3
  obtain ⟨A3, c3, rfl, -, -, -⟩ := hu3.open_
  clear hu3 hb3 H61
  go_wp2_with fail
  refine (HI.out _ _ HV3.out).mono ?_
  rintro e w4 ⟨A4, c4, rfl, ho, hb⟩
  rw [← HIE.out] at ho
  rw [← HIE.out]
  have HB4 := Lib.hid (HB3.out.trans (hb.mono HB3.out.size))
  have HU4 := Lib.hid (HU3.out.below hb)
  have HV4 := Lib.hid (OwnI.ints ho (Mild.fits HMI.out))
  clear ho hb
  generalize invW v = vi at *
  generalize bestTo v v v.length = b at *
  have H62' : Hid (∀ W A c, IntsAt W (.slice A vi.length c) vi → Calls Try.prog 62 #[.slice A vi.length c] W fun e w' => e = .returned (.func (.func 73) #[] #[.pointer (some ⟨W.heap.size, 0, none⟩)]) ∧ w' = W.alloc (.cells #[.slice A vi.length c] 24)) := Lib.hid fun W A c h => rotations62_any W _ vi h
  go_wp2_with fail
  refine (H62'.out _ _ _ HV4.out).mono ?_
  rintro e w5 ⟨rfl, rfl⟩
  have hal : Below w4.heap.size w4 (w4.alloc (.cells #[.slice A4 vi.length c4] 24)) := (Below.refl _ _).alloc (Nat.le_refl _) _
  have H61 := Lib.hid (callsIn_wide.1 (least61_in 0 (w4.alloc (.cells #[.slice A4 vi.length c4] 24)) (.slice A3 b.length c3) A4 c4 w4.heap.size vi b (heap_alloc_new w4 _) (HV4.out.below hal) (HU4.out.below hal) (by omega) HMI.out HMB.out))
  have HB5 := Lib.hid (HB4.out.trans (hal.mono HB4.out.size))
  clear hal
  go_wp2_with fail
  refine H61.out.mono ?_
  rintro e w6 ⟨u6, rfl, hu6, hb6⟩
  rw [← HE.out] at hu6
  have HB6 := Lib.hid (HB5.out.trans (hb6.mono HB5.out.size))
  have HU6 := Lib.hid hu6
  obtain ⟨A6, c6, rfl, -, -, -⟩ := hu6.open_
  clear hu6 hb6 H61
  go_wp2_with fail
  refine (clone71_any w6 _ R HU6.out (by omega)).mono ?_
  rintro e w7 ⟨A7, c7, rfl, ho, hb⟩
  have HO := Lib.hid ho
  have HB7 := Lib.hid (HB6.out.trans (hb.mono HB6.out.size))
  clear ho hb
  go_wp2_with fail
  go_ret
  exact ⟨_, _, rfl, owns_base HO.out HB6.out.size, HB7.out⟩
end Go.Proofs
