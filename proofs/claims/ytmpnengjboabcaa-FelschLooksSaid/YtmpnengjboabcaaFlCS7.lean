/- A region that draws its order, whatever it holds: each operation is shown once; One operation at a time: what it runs to; (*coset.state).find; The reference's state of an enumeration in memory; (*State).Rep; The reference's merge; (*coset.state).coincide: what it meets; The reference's Coincide; (*coset.state).coincide. -/
import Derived.Test.YtmpnengjboabcaaFlCS5
import Derived.Test.YtmpnengjboabcaaFlCS6
import Derived.BigRegion
import Derived.WalkMore
import Derived.Deep.CutBlock
import Derived.Deep.LoopGhost
namespace Go.Proofs
open Go.RowKit Go.Shelf Go.Proofs.Ct Go.Maps
structure Part (a0 : Act) (dm : Nat → Option Tmp) (N : Nat) (ls : Nat → Bool) (a : Act) : Prop where
  size : a.tmps.size = a0.tmps.size
  defers : a.defers = a0.defers
  out : ∀ t, (∀ i, i < N → ls i = true → dm i ≠ some t) → a.tmps.getD t undef = a0.tmps.getD t undef
theorem Part.put {a0 a : Act} {dm : Nat → Option Tmp} {N i : Nat} {ls : Nat → Bool} (h : Part a0 dm N ls a) (hi : i < N) (v : Value) : Part a0 dm N (fun j => if i = j then true else ls j) (a.put (dm i) v) := by
  refine ⟨?_, ?_, fun t ht => ?_⟩
  · cases hd : dm i with
    | none => exact h.size
    | some t => simpa [Act.put] using h.size
  · cases hd : dm i with
    | none => exact h.defers
    | some t => exact h.defers
  · have h1 : ∀ j, j < N → ls j = true → dm j ≠ some t := fun j hj hl => ht j hj (by simp [hl])
    have h2 := ht i hi (by rw [if_pos rfl])
    rw [← h.out t h1]
    cases hd : dm i with
    | none => rfl
    | some t' => exact put_getD_ne _ _ _ _ (fun e => h2 (by rw [hd, e]))
def slotv (a : Act) : Option Tmp → Value
  | some t => a.tmps.getD t undef
  | none => undef
def lexB (ops : Array Oper) : Bool := (List.range ops.size).all fun i => match ops[i]? with | some o => o.after.toList.all fun e => decide (e.on < i) || !Region.binds .any e | none => true
theorem lex_of {ops : Array Oper} (h : lexB ops = true) : ∀ (i : Nat) (o : Oper), ops[i]? = some o → ∀ e ∈ o.after.toList, Region.binds .any e = true → e.on < i := fun i o ho e he hb => by
  unfold lexB at h
  rw [List.all_eq_true] at h
  have hi : i < ops.size := (Array.getElem?_eq_some_iff.1 ho).1
  have := h i (by simpa using hi)
  rw [ho] at this
  rw [List.all_eq_true] at this
  have h2 := this e he
  rw [hb] at h2
  simpa using h2
section
variable {F : Fence} {n : Nat} {P : Program} {ops : Array Oper} {Q : Exit → Act → World → Prop}
theorem wpIn_region_all {id : Nat} {a0 : Act} {w : World} (hm : P.follows .mixedOrders = true) (N : Nat) (hN : ops.size = N) (dm : Nat → Option Tmp) (hlex : ∀ (i : Nat) (o : Oper), ops[i]? = some o → ∀ e ∈ o.after.toList, Region.binds .any e = true → e.on < i)
    (S : (Nat → Bool) → World → Prop) (Φ : Nat → Value → World → Prop) (G : Nat → World → World → Prop)
    (hdm : ∀ i j t, i < N → j < N → dm i = some t → dm j = some t → i = j)
    (hΦ : ∀ i j v w w', i < N → j < N → i ≠ j → G i w w' → Φ j v w → Φ j v w')
    (hsz : ∀ i t, i < N → dm i = some t → t < a0.tmps.size) (h0 : S (fun _ => false) w.drew)
    (hop : ∀ (ls : Nat → Bool) (i : Nat) (o : Oper) (a : Act) (w : World), i < N → ops[i]? = some o → S ls w → ls i = false → (∀ (j : Nat) (oj : Oper), ops[j]? = some oj → ls j = true → ∀ e ∈ oj.after.toList, Region.binds .any e = true → ls e.on = true) → Part a0 dm N ls a →
      (∀ e ∈ o.after.toList, Region.binds .any e = true → ls e.on = true ∧ Φ e.on (slotv a (dm e.on)) w) →
      wpOpIn F n P ops Q i (fun a' w' => ∃ v, a' = a.put (dm i) v ∧ S (fun j => if i = j then true else ls j) w' ∧ G i w w' ∧ (dm i = none → v = undef) ∧ Φ i v w') a w)
    (hend : ∀ (ls : Nat → Bool) (a : Act) (w : World), (∀ i, i < N → ls i = true) → S ls w → Part a0 dm N ls a → (∀ i, i < N → Φ i (slotv a (dm i)) w) → Q .normal a w) :
    (Code.region id ops true).wpIn F n P Q a0 w := by
  subst hN
  refine wpIn_region_any hm ?_
  refine wpAnyIn_inv (fun listed a w => Closed ops listed ∧ S (fun j => listed.getD j false) w ∧ Part a0 dm ops.size (fun j => listed.getD j false) a ∧ ∀ i, i < ops.size → listed.getD i false = true → Φ i (slotv a (dm i)) w) ?_ ?_ ops.size _ a0 _ (by simp) ?_ ⟨fun i o ho h => ?_, ?_, ⟨rfl, rfl, fun _ _ => rfl⟩, fun i hi h => ?_⟩
  · rintro listed a w i hls ⟨hcl, hS, hP, hsl⟩ hi
    obtain ⟨h1, h2, o, ho, hpre⟩ := ready_mem hi
    rw [getD_true_false (by omega)] at h2
    have hsetD : ∀ j, (listed.setIfInBounds i true).getD j false = if i = j then true else listed.getD j false := fun j => getD_set_listed (by omega)
    have hcl' : Closed ops (listed.setIfInBounds i true) := fun j oj hoj hl e he hb => by
      rw [hsetD] at hl ⊢
      by_cases eij : i = j
      · subst eij
        rw [ho] at hoj; cases hoj
        have := hpre e he hb
        split
        · rfl
        · exact this
      · rw [if_neg eij] at hl
        have := hcl j oj hoj hl e he hb
        split
        · rfl
        · exact this
    have hwp := hop _ i o a w h1 ho hS h2 (fun j oj hoj hl => hcl j oj hoj hl) hP (fun e he hb => ⟨hpre e he hb, hsl e.on (by have := hlex i o ho e he hb; omega) (hpre e he hb)⟩)
    refine wpOpIn_mono (fun a' w' h => ?_) hwp
    obtain ⟨v, rfl, hS', hG, hvn, hv⟩ := h
    rw [show (fun j => if i = j then true else listed.getD j false) = (fun j => (listed.setIfInBounds i true).getD j false) from (funext hsetD).symm] at hS'
    have hP' := hP.put h1 v
    rw [show (fun j => if i = j then true else listed.getD j false) = (fun j => (listed.setIfInBounds i true).getD j false) from (funext hsetD).symm] at hP'
    refine ⟨hcl', hS', hP', fun j hj hl => ?_⟩
    by_cases e : i = j
    · subst e
      have : slotv (a.put (dm i) v) (dm i) = v := by
        cases hdi : dm i with
        | none => rw [hvn hdi]; rfl
        | some t => exact put_getD_same _ _ _ (by rw [hP.size]; exact hsz i t h1 hdi)
      rw [this]
      exact hv
    · rw [hsetD, if_neg e] at hl
      have := hΦ i j _ _ _ h1 hj e hG (hsl j hj hl)
      have hv' : slotv (a.put (dm i) v) (dm j) = slotv a (dm j) := by
        cases hdj : dm j with
        | none => rfl
        | some t =>
          cases hdi : dm i with
          | none => rfl
          | some t' => exact put_getD_ne _ _ _ _ (fun e' => e (hdm i j t h1 hj (by rw [hdi, e']) hdj))
      rw [hv']
      exact this
  · rintro listed a w hls ⟨hcl, hS, hP, hsl⟩ hr
    have hready : ∀ i, i < ops.size → listed.getD i false = true := by
      intro i
      induction i using Nat.strongRecOn with
      | _ i ih =>
        intro hi
        rcases hl : listed.getD i false with _ | _
        · have hmem : i ∈ Region.ready .any ops listed := by
            simp only [Region.ready, List.mem_filter, List.mem_range, Bool.and_eq_true, Bool.not_eq_true']
            refine ⟨hi, by rw [getD_true_false (by omega)]; exact hl, ?_⟩
            rw [Array.getElem?_eq_getElem hi]
            simp only [Option.map_some, Option.getD_some]
            rw [Array.all_eq_true_iff_forall_mem]
            intro e he
            by_cases hb : Region.binds .any e = true
            · have hlt := hlex i _ (Array.getElem?_eq_getElem hi) e (by simpa using he) hb
              simp [ih e.on hlt (by omega)]
            · simp [hb]
          rw [hr] at hmem; cases hmem
        · rfl
    exact hend _ a w hready hS hP (fun i hi => hsl i hi (hready i hi))
  · simp
  · have : (Array.replicate ops.size false).getD i false = false := by
      simp only [Array.getD_eq_getD_getElem?, Array.getElem?_replicate]; split <;> rfl
    rw [this] at h; cases h
  · rw [show (fun j => (Array.replicate ops.size false).getD j false) = (fun _ => false) from funext fun j => by simp only [Array.getD_eq_getD_getElem?, Array.getElem?_replicate]; split <;> rfl]
    exact h0
  · have : (Array.replicate ops.size false).getD i false = false := by
      simp only [Array.getD_eq_getD_getElem?, Array.getElem?_replicate]; split <;> rfl
    rw [this] at h; cases h
end
theorem not_yet {ops : Array Oper} {ls : Nat → Bool} (hcl : ∀ (j : Nat) (oj : Oper), ops[j]? = some oj → ls j = true → ∀ e ∈ oj.after.toList, Region.binds .any e = true → ls e.on = true) (j : Nat) {oj : Oper} (hoj : ops[j]? = some oj) (e : Edge) (he : e ∈ oj.after.toList) (hb : Region.binds .any e = true) (h : ls e.on = false) : ls j = false := by
  cases hj : ls j with
  | false => rfl
  | true => rw [hcl j oj hoj hj e he hb] at h; cases h
theorem dm_out {dm : Nat → Option Tmp} {N t : Nat} {ls : Nat → Bool} (h : (List.range N).all (fun i => !(dm i == some t)) = true) : ∀ i, i < N → ls i = true → dm i ≠ some t := fun i hi _ e => by
  rw [List.all_eq_true] at h
  have := h i (by simpa using hi)
  rw [e] at this
  simp at this
theorem dm_inj {dm : Nat → Option Tmp} {N : Nat} (h : (List.range N).all (fun i => (List.range N).all fun j => (i == j) || (dm i == none) || !(dm i == dm j)) = true) : ∀ i j t, i < N → j < N → dm i = some t → dm j = some t → i = j := fun i j t hi hj e1 e2 => by
  rw [List.all_eq_true] at h
  have h1 := h i (by simpa using hi)
  rw [List.all_eq_true] at h1
  have h2 := h1 j (by simpa using hj)
  rw [e1, e2] at h2
  simpa using h2
theorem dm_lt {dm : Nat → Option Tmp} {N n : Nat} (h : (List.range N).all (fun i => match dm i with | some t => decide (t < n) | none => true) = true) : ∀ i t, i < N → dm i = some t → t < n := fun i t hi e => by
  rw [List.all_eq_true] at h
  have := h i (by simpa using hi)
  rw [e] at this
  simpa using this
theorem Part.frame {a0 a : Act} {dm : Nat → Option Tmp} {N : Nat} {ls : Nat → Bool} (h : Part a0 dm N ls a) (n : Nat) (hn : a0.tmps.size = n) :
    ∃ vs : Nat → Value, (∀ t, vs t = a.tmps.getD t undef) ∧ a = { tmps := ((List.range n).map fun t => if (List.range N).any (fun i => dm i == some t) then vs t else a0.tmps.toList.getD t undef).toArray, defers := a0.defers } := by
  refine ⟨fun t => a.tmps.getD t undef, fun _ => rfl, ?_⟩
  obtain ⟨t, d⟩ := a
  have hd := h.defers
  have hs := h.size
  have ho := h.out
  simp only at hd hs ho
  subst hd
  congr 1
  apply Array.ext'
  apply List.ext_getElem?
  intro i
  rcases Nat.lt_or_ge i n with hi | hi
  · have hit : i < t.size := by omega
    have hg : t.toList[i]? = some (t.getD i undef) := by simp [Array.getD, hit]
    rw [hg]
    simp only [List.getElem?_map, List.getElem?_range hi, Option.map_some]
    congr 1
    by_cases hx : (List.range N).any (fun q => dm q == some i) = true
    · rw [if_pos hx]
    · rw [if_neg hx]
      rw [ho i (fun j hj _ e => hx ?_)]
      · simp [Array.getD_eq_getD_getElem?, List.getD_eq_getElem?_getD]
      · rw [List.any_eq_true]
        exact ⟨j, by simpa using hj, by simpa using e⟩
  · rw [List.getElem?_eq_none (by simpa using (by omega : t.size ≤ i)), List.getElem?_eq_none (by simpa using hi)]
end Go.Proofs
namespace Go.Proofs
open Go.RowKit Go.Shelf Go.Proofs.Ct Go.Maps
section
variable {o : Oper} {a : Act} {w w' : World} {n : Nat} {next : Act → World → Prop} {Q : Exit → Act → World → Prop} {v : Value}
theorem wpW_skip (hrun : (execOp a.eval o).run Try.prog w = .ok .skip w') (h : next (a.put o.dst undef) w') : o.wpIn Fence.wide n Try.prog a w next Q :=
  ⟨fun _ _ => trivial, by rw [Fence.wide_round, Oper.semAt_none, hrun]; exact h⟩
theorem r_nil (x : Operand) (ad : Addr) (ho : o.op = .nilCheck x) (hx : a.eval x = .pointer (some ad)) : (execOp a.eval o).run Try.prog w = .ok (.value (.pointer (some ad))) w := by
  unfold execOp; simp only [ho, hx]; rfl
theorem agg3 (w : World) : (isAgg 3).run Try.prog w = .ok false w := by kernel_rfl
theorem agg22 (w : World) : (isAgg 22).run Try.prog w = .ok false w := by kernel_rfl
theorem agg23 (w : World) : (isAgg 23).run Try.prog w = .ok false w := by kernel_rfl
theorem agg24 (w : World) : (isAgg 24).run Try.prog w = .ok false w := by kernel_rfl
theorem r_load1 (T : TypeId) (hT : ∀ w, (isAgg T).run Try.prog w = .ok false w) (x : Operand) (ad : Addr) (ho : o.op = .load T x) (hx : a.eval x = .pointer (some ad)) (hc : w.cell? ad = some v) : (execOp a.eval o).run Try.prog w = .ok (.value v) w := by
  unfold execOp
  simp only [ho, hx, Instr.loadAt, Instr.sureAddr, loadVar, Sem.run_bind, Sem.run_pure, Result.andThen_ok, hT]
  simp [go_sem, hc]
theorem fld124_0 (b : Nat) (w : World) : (Instr.fieldAt 131 (.pointer (some ⟨b, 0, none⟩)) 0).run Try.prog w = .ok (.pointer (some ⟨b, 0, none⟩)) w := by kernel_rfl
theorem fld124_1 (b : Nat) (w : World) : (Instr.fieldAt 131 (.pointer (some ⟨b, 0, none⟩)) 1).run Try.prog w = .ok (.pointer (some ⟨b, 1, none⟩)) w := by kernel_rfl
theorem fld124_4 (b : Nat) (w : World) : (Instr.fieldAt 131 (.pointer (some ⟨b, 0, none⟩)) 4).run Try.prog w = .ok (.pointer (some ⟨b, 4, none⟩)) w := by kernel_rfl
theorem fld124_5 (b : Nat) (w : World) : (Instr.fieldAt 131 (.pointer (some ⟨b, 0, none⟩)) 5).run Try.prog w = .ok (.pointer (some ⟨b, 5, none⟩)) w := by kernel_rfl
theorem idx_sl {T E : TypeId} (hu : Try.prog.underlying T = some (.slice E)) (hs : ∀ w, (sizeOf E).run Try.prog w = .ok 1 w) (g m c i : Nat) (hi : i < m) (w : World) :
    (Instr.indexAt T (.slice (some ⟨g, 0, none⟩) m c) (.int .i64 (i : Int))).run Try.prog w = .ok (.pointer (some ⟨g, i, none⟩)) w := by
  have h1 : (0 : Int) ≤ (i : Int) ∧ (i : Int) < (m : Int) := ⟨by omega, by omega⟩
  have h2 := Addr.add_mid g 0 i
  rw [Nat.zero_add] at h2
  simp [Instr.indexAt, asIntOf, run_underlying hu, hs, h2, hi]
theorem size3 (w : World) : (sizeOf 3).run Try.prog w = .ok 1 w := by kernel_rfl
theorem size24 (w : World) : (sizeOf 24).run Try.prog w = .ok 1 w := by kernel_rfl
theorem r_idx {T : Nat} (x y : Operand) (ad i : Value) (ho : o.op = .indexAddr T x y) (hx : a.eval x = ad) (hy : a.eval y = i) (hf : (Instr.indexAt T ad i).run Try.prog w = .ok v w) : (execOp a.eval o).run Try.prog w = .ok (.value v) w := by
  unfold execOp; simp only [ho, hx, hy, Sem.run_bind, hf, Result.andThen_ok]; rfl
theorem r_store1 (T : TypeId) (x y : Operand) (ad : Addr) (u v : Value) (ho : o.op = .store T x y) (hx : a.eval x = .pointer (some ad)) (hy : a.eval y = v) (_h1 : ad.spot = none) (_hc : w.cell? ad = some u) (_hf : w.frozen? ad = false) (ht : (Instr.storeAt T (.pointer (some ad)) v).run Try.prog w = .ok () (w.setCell ad v)) : (execOp a.eval o).run Try.prog w = .ok .skip (w.setCell ad v) := by
  unfold execOp
  simp only [ho, hx, hy, Sem.run_bind, ht, Result.andThen_ok]
  rfl
theorem st3 (ad : Addr) (x y : Int) (hc : w.cell? ad = some (.int .i64 x)) (hf : w.frozen? ad = false) : (Instr.storeAt 3 (.pointer (some ad)) (.int .i64 y)).run Try.prog w = .ok () (w.setCell ad (.int .i64 y)) := by
  simp [Instr.storeAt, Instr.sureAddr, go_sem, hc, hf]
theorem st24 (ad : Addr) (u : Value) (A : Option Addr) (m c : Nat) (hc : w.cell? ad = some u) (hf : w.frozen? ad = false) : (Instr.storeAt 24 (.pointer (some ad)) (.slice A m c)).run Try.prog w = .ok () (w.setCell ad (.slice A m c)) := by
  simp [Instr.storeAt, Instr.sureAddr, go_sem, hc, hf]
theorem st22 (ad : Addr) (u : Value) (A : Option Addr) (m c : Nat) (hc : w.cell? ad = some u) (hf : w.frozen? ad = false) : (Instr.storeAt 22 (.pointer (some ad)) (.slice A m c)).run Try.prog w = .ok () (w.setCell ad (.slice A m c)) := by
  simp [Instr.storeAt, Instr.sureAddr, go_sem, hc, hf]
end
end Go.Proofs
namespace Go.Proofs
open Go.RowKit Go.Shelf Go.Proofs.Ct Go.Maps
structure BoxP (b wd lim : Nat) (w : World) (s : St) (vr vp vq : Value) : Prop where
  box : w.heap[b]? = some (.cells #[.int .i64 (wd : Int), .int .i64 (lim : Int), vr, vp, vq, .int .i64 s.live, .int .i64 s.most] 123 (0, 0))
def StP (base b wd lim : Nat) (w : World) (s : St) : Prop := base ≤ b ∧ ∃ P vr vp vq bl cs, BoxP b wd lim w s vr vp vq ∧ CoreM base w s P vr vp vq bl cs
end Go.Proofs
namespace Go.Proofs
open Go.RowKit Go.Shelf Go.Proofs.Ct Go.Maps
abbrev TySt (T : TypeId) : Prop := ¬ (T ≠ 3 ∧ T ≠ 24 ∧ T ≠ 131)
def Kf (base : Nat) (w w' : World) : Prop := Below base w w' ∧ ∀ (k : Nat) (C : Array Value) (T : TypeId), ¬ TySt T → w.heap[k]? = some (Obj.cells C T (0, 0)) → w'.heap[k]? = some (Obj.cells C T (0, 0))
section
variable {base : Nat} {w w1 w2 : World}
theorem Kf.refl (base : Nat) (w : World) : Kf base w w := ⟨Below.refl _ _, fun _ _ _ _ h => h⟩
theorem Kf.trans (h : Kf base w w1) (h2 : Kf base w1 w2) : Kf base w w2 := ⟨h.1.trans h2.1, fun k C T hT hk => h2.2 k C T hT (h.2 k C T hT hk)⟩
theorem Kf.size (h : Kf base w w1) : w.heap.size ≤ w1.heap.size := h.1.size
theorem Kf.of (h : Below w.heap.size w w1) (hb : base ≤ w.heap.size) : Kf base w w1 := ⟨h.mono hb, fun k _ _ _ hk => (h.block k (Array.getElem?_eq_some_iff.1 hk).1).trans hk⟩
theorem Kf.setCell (h : Kf base w w1) {p : Addr} (hp : base ≤ p.block) (hT : ∃ C T, w1.heap[p.block]? = some (.cells C T (0, 0)) ∧ TySt T) (v : Value) : Kf base w (w1.setCell p v) :=
  ⟨h.1.setCell hp v, fun k C T' hT' hk => (Below.heap_setCell w1 p v k (fun e => by
    obtain ⟨C', T, h1, h2⟩ := hT
    have := h.2 k C T' hT' hk
    rw [e, h1] at this
    cases this
    exact hT' h2)).trans (h.2 k C T' hT' hk)⟩
theorem Kf.grown (h : Kf base w w1) {row : Option Nat} (hg : w1.grownBy w2 row) (hbw : base ≤ w1.heap.size) (hr : ∀ r, row = some r → base ≤ r ∧ ∃ C T, w1.heap[r]? = some (.cells C T (0, 0)) ∧ TySt T) : Kf base w w2 :=
  ⟨h.1.grown hg hbw fun r e => (hr r e).1, fun k C T' hT' hk => (hg.block k (Array.getElem?_eq_some_iff.1 (h.2 k C T' hT' hk)).1 (fun e => by
    obtain ⟨-, C', T, h1, h2⟩ := hr k e.symm
    have := h.2 k C T' hT' hk
    rw [h1] at this
    cases this
    exact hT' h2)).trans (h.2 k C T' hT' hk)⟩
theorem Kf.drewN (h : Kf base w w1) (q : Nat) : Kf base w (w1.drewN q) := ⟨below_drewN h.1 q, h.2⟩
end
theorem owns_kf {w : World} {base e n : Nat} {v : Value} {xs : List Value} (h : w.ownsRow base e 1 v n xs) (he : TySt e) : ∀ r, v.ownBlock = some r → base ≤ r ∧ ∃ C T, w.heap[r]? = some (.cells C T (0, 0)) ∧ TySt T := fun r hr => by
  obtain ⟨h1, C, hC⟩ := owns_block h r hr
  exact ⟨h1, C, e, hC, he⟩
structure BoxR (b lim : Nat) (w : World) (s : St) (vr vp vq : Value) (f : Bool) : Prop where
  box : w.heap[b]? = some (.cells #[vr, vp, vq, .int .i64 (lim : Int), .int .i64 s.live, .int .i64 s.most, .bool f] 131 (0, 0))
section
variable {b lim : Nat} {w w' : World} {s s' : St} {vr vp vq : Value} {f : Bool}
theorem BoxR.cells (h : BoxR b lim w s vr vp vq f) : w.cell? ⟨b, 0, none⟩ = some vr ∧ w.cell? ⟨b, 1, none⟩ = some vp ∧ w.cell? ⟨b, 2, none⟩ = some vq ∧ w.cell? ⟨b, 3, none⟩ = some (.int .i64 (lim : Int)) ∧ w.cell? ⟨b, 4, none⟩ = some (.int .i64 s.live) ∧ w.cell? ⟨b, 5, none⟩ = some (.int .i64 s.most) ∧ w.cell? ⟨b, 6, none⟩ = some (.bool f) := by
  have hc := h.box
  refine ⟨?_, ?_, ?_, ?_, ?_, ?_, ?_⟩ <;> (rw [cell_of_row _ _ _ _ _ _ hc]; rfl)
theorem BoxR.frozen (h : BoxR b lim w s vr vp vq f) (k : Nat) : w.frozen? ⟨b, k, none⟩ = false := by simp [World.frozen?, h.box]
theorem BoxR.lt (h : BoxR b lim w s vr vp vq f) : b < w.heap.size := (Array.getElem?_eq_some_iff.1 h.box).1
theorem BoxR.below (h : BoxR b lim w s vr vp vq f) (hb : Below w.heap.size w w') : BoxR b lim w' s vr vp vq f := ⟨(hb.block _ h.lt).trans h.box⟩
theorem BoxR.other (h : BoxR b lim w s vr vp vq f) {g : Nat} {T : TypeId} (hg : ∃ C, w.heap[g]? = some (.cells C T (0, 0))) (hT : T ≠ 131) (k : Nat) (v : Value) : BoxR b lim (w.setCell ⟨g, k, none⟩ v) s vr vp vq f :=
  ⟨(Below.heap_setCell w ⟨g, k, none⟩ v b (fun e => by
    obtain ⟨C, hC⟩ := hg
    have e' : b = g := e
    have := h.box
    rw [e', hC] at this
    cases this
    exact hT rfl)).trans h.box⟩
theorem BoxR.grown (h : BoxR b lim w s vr vp vq f) {o : Option Nat} (hg : w.grownBy w' o) (hn : o ≠ some b) : BoxR b lim w' s vr vp vq f := ⟨(hg.block b h.lt (Ne.symm hn)).trans h.box⟩
theorem boxR_set {b k : Nat} {C : Array Value} {T : TypeId} (h : w.heap[b]? = some (.cells C T (0, 0))) (v : Value) : (w.setCell ⟨b, k, none⟩ v).heap[b]? = some (.cells (C.setIfInBounds k v) T (0, 0)) := by
  simp [World.setCell, Array.getElem?_modify, h]
theorem BoxR.upd0 (h : BoxR b lim w s vr vp vq f) (v : Value) (hl : s'.live = s.live) (hm : s'.most = s.most) : BoxR b lim (w.setCell ⟨b, 0, none⟩ v) s' v vp vq f := ⟨by rw [boxR_set h.box]; simp [hl, hm]⟩
theorem BoxR.upd1 (h : BoxR b lim w s vr vp vq f) (v : Value) (hl : s'.live = s.live) (hm : s'.most = s.most) : BoxR b lim (w.setCell ⟨b, 1, none⟩ v) s' vr v vq f := ⟨by rw [boxR_set h.box]; simp [hl, hm]⟩
theorem BoxR.upd2 (h : BoxR b lim w s vr vp vq f) (v : Value) (hl : s'.live = s.live) (hm : s'.most = s.most) : BoxR b lim (w.setCell ⟨b, 2, none⟩ v) s' vr vp v f := ⟨by rw [boxR_set h.box]; simp [hl, hm]⟩
theorem BoxR.upd4 (h : BoxR b lim w s vr vp vq f) {z : Int} (hl : s'.live = z) (hm : s'.most = s.most) : BoxR b lim (w.setCell ⟨b, 4, none⟩ (.int .i64 z)) s' vr vp vq f := ⟨by rw [boxR_set h.box]; simp [hl, hm]⟩
theorem BoxR.upd5 (h : BoxR b lim w s vr vp vq f) {z : Int} (hl : s'.live = s.live) (hm : s'.most = z) : BoxR b lim (w.setCell ⟨b, 5, none⟩ (.int .i64 z)) s' vr vp vq f := ⟨by rw [boxR_set h.box]; simp [hl, hm]⟩
theorem BoxR.of (h : BoxR b lim w s vr vp vq f) (hl : s'.live = s.live) (hm : s'.most = s.most) : BoxR b lim w s' vr vp vq f := ⟨by rw [hl, hm]; exact h.box⟩
end
theorem CoreM.ne_boxR {base b lim : Nat} {w : World} {s s' : St} {P : List Int} {vr vp vq v1 v2 v3 : Value} {f : Bool} {bl cs : Nat → Nat} (h : CoreM base w s P vr vp vq bl cs) (hB : BoxR b lim w s' v1 v2 v3 f) : vp.ownBlock ≠ some b ∧ vq.ownBlock ≠ some b ∧ vr.ownBlock ≠ some b ∧ ∀ i, i < s.t.length → bl i ≠ b := by
  refine ⟨fun e => ?_, fun e => ?_, fun e => ?_, fun i hi e => ?_⟩
  · obtain ⟨-, C, hC⟩ := owns_block h.par b e
    rw [hB.box] at hC
    cases hC
  · obtain ⟨-, C, hC⟩ := owns_block h.que b e
    rw [hB.box] at hC
    cases hC
  · obtain ⟨-, C, hC⟩ := owns_block h.out b e
    rw [hB.box] at hC
    cases hC
  · obtain ⟨-, ⟨C, hC, -⟩, -⟩ := h.row i hi
    rw [e, hB.box] at hC
    cases hC
def StR (base b lim : Nat) (w : World) (s : St) : Prop := base ≤ b ∧ ∃ P vr vp vq bl cs f, BoxR b lim w s vr vp vq f ∧ CoreM base w s P vr vp vq bl cs
section
variable {g base b lim : Nat} {w w' : World} {s : St}
theorem StR.below (h : StR base b lim w s) (hb : Below w.heap.size w w') : StR base b lim w' s := by
  obtain ⟨h1, P, vr, vp, vq, bl, cs, f, h2, h3⟩ := h
  exact ⟨h1, P, vr, vp, vq, bl, cs, f, h2.below hb, h3.below hb⟩
theorem StR.at_ (hI : Inv g s) (hS : StR base b lim w s) {r c : Nat} (hr : r < s.t.length) (hc : c < 2 * g) : ∃ gr cr br k, w.cell? ⟨b, 0, none⟩ = some (.slice (some ⟨gr, 0, none⟩) s.t.length cr) ∧ w.cell? ⟨gr, r, none⟩ = some (.slice (some ⟨br, 0, none⟩) (2 * g) k) ∧ w.cell? ⟨br, c, none⟩ = some (.int .i64 (s.t.at r c)) := by
  obtain ⟨-, P, vr, vp, vq, bl, cs, f, hB, hC⟩ := hS
  obtain ⟨gr, cr, rfl, r1, r2, r3⟩ := hC.at_ hr (c := c) (by rw [hI.len r hr]; exact hc)
  rw [hI.len r hr] at r1
  exact ⟨gr, cr, bl r, cs r, hB.cells.1, r1, r2⟩
theorem StR.view (hl : ∀ r, r < s.t.length → (s.t.row r).length = 2 * g) (hS : StR base b lim w s) (h0 : 0 < s.t.length) : ∃ (gr cr : Nat) (bl cs : Nat → Nat), w.cell? ⟨b, 0, none⟩ = some (.slice (some ⟨gr, 0, none⟩) s.t.length cr) ∧ (∀ (r : Nat), r < s.t.length → w.cell? ⟨gr, r, none⟩ = some (.slice (some ⟨bl r, 0, none⟩) (2 * g) (cs r))) ∧ ∀ (r c : Nat), r < s.t.length → c < 2 * g → w.cell? ⟨bl r, c, none⟩ = some (.int .i64 (s.t.at r c)) ∧ w.frozen? ⟨bl r, c, none⟩ = false ∧
    ∀ z, StR base b lim (w.setCell ⟨bl r, c, none⟩ (.int .i64 z)) { s with t := set2 s.t r c z } ∧ Kf base w (w.setCell ⟨bl r, c, none⟩ (.int .i64 z)) := by
  obtain ⟨hb, P, vr, vp, vq, bl, cs, f, hB, hC⟩ := hS
  obtain ⟨hlo, ho⟩ := hC.out
  rcases ho with ⟨-, h⟩ | ⟨gr, cap, cur, hvr, hbo, hCr, h3, hm, hs, ht⟩
  · omega
  · refine ⟨gr, cap, bl, cs, by rw [← hvr]; exact hB.cells.1, fun r hr => ?_, fun r c hr hc => ?_⟩
    · rw [cell_of_row _ _ _ _ _ _ hCr]
      have h2 : (cur.toList.take (s.t.length * 1))[r]? = ((List.range s.t.length).map fun i => Value.slice (some ⟨bl i, 0, none⟩) (s.t.row i).length (cs i))[r]? := by rw [ht]
      rw [List.getElem?_take, if_pos (by omega)] at h2
      simpa [hr, hl r hr] using h2
    · have hc' : c < (s.t.row r).length := by rw [hl r hr]; exact hc
      obtain ⟨gr', cr', e, r1, r2, r3⟩ := hC.at_ hr hc'
      obtain ⟨h1, ⟨C, hCb, -⟩, -⟩ := hC.row r hr
      exact ⟨r2, r3, fun z => ⟨⟨hb, P, _, vp, vq, bl, cs, f, (hB.other ⟨C, hCb⟩ (by decide) c _).of rfl rfl, hC.set hr hc' z⟩, (Kf.refl base w).setCell h1 ⟨C, 3, hCb, by decide⟩ _⟩⟩
theorem StR.par (hS : StR base b lim w s) {c : Nat} (hc : c < s.t.length) : ∃ P gp cp, w.cell? ⟨b, 1, none⟩ = some (.slice (some ⟨gp, 0, none⟩) s.t.length cp) ∧ Roots P s ∧ ∀ k, k < s.t.length → w.cell? ⟨gp, k, none⟩ = some (.int .i64 (P.getD k 0)) := by
  obtain ⟨-, P, vr, vp, vq, bl, cs, f, hB, hC⟩ := hS
  obtain ⟨gp, cp, rfl, hg1, hg2, hcc, -⟩ := ownI_cell hC.par (by rw [hC.len]; omega)
  rw [hC.len] at hB hcc
  exact ⟨P, gp, cp, hB.cells.2.1, hC.root, fun k hk => hcc k hk⟩
theorem StR.que (hS : StR base b lim w s) : ∃ A c, w.cell? ⟨b, 2, none⟩ = some (.slice A s.q.length c) ∧ w.frozen? ⟨b, 2, none⟩ = false ∧ (0 < s.q.length → ∃ gq, A = some ⟨gq, 0, none⟩ ∧ ∀ k, k < s.q.length → w.cell? ⟨gq, k, none⟩ = some (.int .i64 (s.q.getD k 0 : Int))) ∧
    StR base b lim (w.setCell ⟨b, 2, none⟩ (.slice none 0 0)) { s with q := [] } ∧ Kf base w (w.setCell ⟨b, 2, none⟩ (.slice none 0 0)) := by
  obtain ⟨hb, P, vr, vp, vq, bl, cs, f, hB, hC⟩ := hS
  obtain ⟨A, c, rfl⟩ : ∃ A c, vq = .slice A s.q.length c := by
    rcases hC.que.2 with ⟨h, h0⟩ | ⟨gq, cap, cur, h, -⟩
    · rw [length_nats] at h0; exact ⟨none, 0, by rw [h0]; exact h⟩
    · rw [length_nats] at h; exact ⟨_, cap, h⟩
  have hC0 : CoreM base w { s with q := [] } P vr vp (.slice none 0 0) bl cs :=
    ⟨hC.out, hC.row, hC.inj, hC.par, World.ownsRow_nil _ _ _ _, hC.sepP, (fun i hi e => by cases e), (fun r hr e => by cases e), hC.root.of_rep rfl rfl⟩
  refine ⟨A, c, hB.cells.2.2.1, hB.frozen 2, fun h0 => ?_, ⟨hb, P, vr, vp, _, bl, cs, f, (hB.upd2 (s' := { s with q := [] }) (.slice none 0 0) rfl rfl), hC0.other hB.box (by decide) (by decide) 2 _⟩, (Kf.refl base w).setCell hb ⟨_, 131, hB.box, by decide⟩ _⟩
  obtain ⟨gq, cq, e, -, -, hcc, -⟩ := ownI_cell hC.que (by rw [length_nats]; exact h0)
  rw [length_nats] at e hcc
  injection e with e1 e2 e3
  exact ⟨gq, e1, fun k hk => by have := hcc k hk; rwa [nats_getD] at this⟩
end
set_option maxRecDepth 100000 in
set_option maxHeartbeats 1000000 in
theorem rep160_any (g base b lim c : Nat) (w : World) (s : St) (_hI : Inv g s) (hS : StR base b lim w s) (hc : c < s.t.length) (hn : s.t.length ≤ 1000000) :
    Calls Try.prog 228 #[.pointer (some ⟨b, 0, none⟩), .int .i64 (c : Int)] w fun e w' => e = .returned (.int .i64 (s.rp c : Int)) ∧ w = w' := by
  obtain ⟨P, gp, cp, c1, hR, hcc⟩ := hS.par hc
  have HR := Lib.hid hR
  have HCC := Lib.hid hcc
  have HRC := Lib.hid (hR.root c hc)
  have hn0 : (s.t.length : Int) ≤ 1000000 := by omega
  clear hS hR hcc
  go_enter Try.func228, Try.ntmps228
  go_wp2_with fail
  go_loopw [1] (fun i wr => ∃ r : Nat, i = .int .i64 r ∧ r < s.t.length ∧ Hid (Root P r (s.rp c)) ∧ w = wr) (fun i _ => (intOf i).toNat)
  case atStart => exact ⟨c, rfl, hc, HRC, rfl⟩
  case round =>
    obtain ⟨r, rfl, hr, HRR, rfl⟩ := hrel
    have hr0 : (0 : Int) ≤ (r : Int) := Int.natCast_nonneg _
    have hrI : (r : Int) < (s.t.length : Int) := by omega
    obtain ⟨y, hy, hyx, hyr, hyi⟩ := HRR.out.parent
    have hck := HCC.out r hr
    rw [hy] at hck
    have HYR := Lib.hid hyr
    have HYI := Lib.hid hyi
    clear hy hyr hyi
    by_cases hyx2 : y = r
    · subst hyx2
      have HE : Hid (s.rp c = y) := Lib.hid (HYI.out.1 rfl)
      have d2 : ((y : Int) != (y : Int)) = false := by simp
      go_wp2_with fail
      go_ret
      exact ⟨ret_int (by rw [HE.out]), rfl⟩
    · have d2 : ((y : Int) != (r : Int)) = true := by simp; omega
      have hyl : y < r := by omega
      go_wp2_with fail
      go_roundw
      case rel => exact ⟨y, rfl, by omega, HYR, trivial⟩
      case measure => simp [intOf]; omega
end Go.Proofs
namespace Go.Proofs
open Go.RowKit Go.Shelf Go.Proofs.Ct Go.Maps
theorem merge_memR {g base b lim x y : Nat} {w : World} {s : St} (hI : Inv g s) (hbw : base ≤ w.heap.size) (hS : StR base b lim w s) (hx : x < s.t.length) (hy : y < s.t.length) (hne : s.rp x ≠ s.rp y) (hq : s.q.length ≤ 1000000)
    (hi lo : Nat) (hhi : hi = max (s.rp x) (s.rp y)) (hlo : lo = min (s.rp x) (s.rp y)) :
    ∃ gp cp vq u, w.cell? ⟨b, 1, none⟩ = some (.slice (some ⟨gp, 0, none⟩) s.t.length cp) ∧ w.cell? ⟨gp, hi, none⟩ = some u ∧ w.frozen? ⟨gp, hi, none⟩ = false ∧ hi < s.t.length ∧
      (w.setCell ⟨gp, hi, none⟩ (.int .i64 (lo : Int))).cell? ⟨b, 4, none⟩ = some (.int .i64 s.live) ∧ (w.setCell ⟨gp, hi, none⟩ (.int .i64 (lo : Int))).frozen? ⟨b, 4, none⟩ = false ∧ ((w.setCell ⟨gp, hi, none⟩ (.int .i64 (lo : Int))).setCell ⟨b, 4, none⟩ (.int .i64 (s.live - 1))).cell? ⟨b, 2, none⟩ = some vq ∧
      ∃ A c w4, (Builtin.append_ #[24, 24] 24 #[vq, .slice (some ⟨w.heap.size, 0, none⟩) 1 1]).run Try.prog (((w.setCell ⟨gp, hi, none⟩ (.int .i64 (lo : Int))).setCell ⟨b, 4, none⟩ (.int .i64 (s.live - 1))).alloc (.cells #[.int .i64 (hi : Int)] 3)) = .ok (.slice A (s.q.length + 1) c) w4 ∧
        w4.cell? ⟨b, 2, none⟩ = some vq ∧ w4.frozen? ⟨b, 2, none⟩ = false ∧ StR base b lim (w4.setCell ⟨b, 2, none⟩ (.slice A (s.q.length + 1) c)) (mergeS s x y) ∧ Kf base w (w4.setCell ⟨b, 2, none⟩ (.slice A (s.q.length + 1) c)) := by
  obtain ⟨hb, P, vr, vp, vq, bl, cs, f, hB, hC⟩ := hS
  have hR := hC.root.merge hI hx hy hne
  rw [← hhi, ← hlo] at hR
  have hmx : hi < s.t.length := by have := hI.rlt hx; have := hI.rlt hy; omega
  obtain ⟨gp, cp, rfl, hg1, -, hcc, hfz⟩ := ownI_cell hC.par (by rw [hC.len]; omega)
  rw [hC.len] at hcc
  obtain ⟨-, Cp, hCp⟩ := owns_block hC.par gp rfl
  have hC3 := hC.setP (g := gp) rfl (by rw [hC.len]; exact hmx) (lo : Int) (s' := { mergeS s x y with q := s.q }) (t_merge s x y) rfl (hR.of_rep rfl rfl)
  have hB3 := hB.other (g := gp) ⟨Cp, hCp⟩ (by decide) hi (.int .i64 (lo : Int))
  obtain ⟨-, -, -, -, d4, -, -⟩ := hB3.cells
  have hml : (mergeS s x y).live = s.live - 1 := by unfold mergeS; rw [if_neg hne]
  have hB4 := hB3.upd4 (s' := mergeS s x y) (z := s.live - 1) hml (most_merge s x y)
  have hC4 := hC3.other hB3.box (by decide) (by decide) 4 (.int .i64 (s.live - 1))
  obtain ⟨-, -, d2, -, -, -, -⟩ := hB4.cells
  obtain ⟨A, c, w4, hrun, hC5, hgr⟩ := hC4.pushQ (by rw [World.size_setCell, World.size_setCell]; exact hbw) hi hq
  rw [World.size_setCell, World.size_setCell] at hrun
  obtain ⟨-, hnq, -, -⟩ := hC4.ne_boxR hB4
  have hB5 := hB4.grown hgr hnq
  obtain ⟨-, -, e2, -, -, -, -⟩ := hB5.cells
  have hB6 := hB5.upd2 (s' := mergeS s x y) (.slice A (s.q.length + 1) c) rfl rfl
  have hC6 := hC5.other hB5.box (by decide) (by decide) 2 (.slice A (s.q.length + 1) c)
  have hse : ({ ({ mergeS s x y with q := s.q } : St) with q := s.q ++ [hi] } : St) = mergeS s x y := by
    unfold mergeS
    rw [if_neg hne, ← hhi]
  have hpl : P.length = s.t.length := hC.len
  refine ⟨gp, cp, vq, _, by rw [← hpl]; exact hB.cells.2.1, hcc hi hmx, hfz hi, hmx, d4, hB3.frozen 4, d2, A, c, w4, hrun, e2, hB5.frozen 2, ⟨hb, P.set hi (lo : Int), _, _, _, bl, cs, f, hB6, ?_⟩, ?_⟩
  · have := hC6
    simp only at this
    rw [hse] at this
    exact this
  · have h1 : Kf base w (w.setCell ⟨gp, hi, none⟩ (.int .i64 (lo : Int))) := (Kf.refl base w).setCell hg1 ⟨Cp, 3, hCp, by decide⟩ _
    have h2 := (h1.setCell (p := ⟨b, 4, none⟩) hb ⟨_, 131, hB3.box, by decide⟩ (.int .i64 (s.live - 1))).grown hgr (by rw [World.size_setCell, World.size_setCell]; exact hbw) (owns_kf hC4.que (by decide))
    exact h2.setCell hb ⟨_, 131, hB5.box, by decide⟩ _
theorem merge_comm (s : St) (a b : Nat) : mergeS s a b = mergeS s b a := by
  unfold mergeS
  by_cases h : s.rp a = s.rp b
  · rw [if_pos h, if_pos h.symm]
  · rw [if_neg h, if_neg (fun h' => h h'.symm), Nat.max_comm, Nat.min_comm]
set_option maxRecDepth 100000 in
set_option maxHeartbeats 1000000 in
theorem merge159_any (g base b lim x y : Nat) (w : World) (s : St) (hI : Inv g s) (hS : StR base b lim w s) (hbw : base ≤ w.heap.size) (hx : x < s.t.length) (hy : y < s.t.length) (hn : s.t.length ≤ 1000000) (hq : s.q.length ≤ 1000000) (hl0 : -1000000 ≤ s.live) (hl1 : s.live ≤ 1000000) :
    Calls Try.prog 227 #[.pointer (some ⟨b, 0, none⟩), .int .i64 (x : Int), .int .i64 (y : Int)] w fun e w' => e = .returned (.tuple #[]) ∧ StR base b lim w' (mergeS s x y) ∧ Kf base w w' := by
  have HX := Lib.hid (rep160_any g base b lim x w s hI hS hx hn)
  have HY := Lib.hid (rep160_any g base b lim y w s hI hS hy hn)
  have HS := Lib.hid hS
  have HI := Lib.hid hI
  have hrx := hI.rlt hx
  have hry := hI.rlt hy
  have HBW := Lib.hid hbw
  clear hS hI hbw
  by_cases hne : s.rp x = s.rp y
  · have HM : Hid (mergeS s x y = s) := Lib.hid (by unfold mergeS; rw [if_pos hne])
    generalize mergeS s x y = s' at *
    generalize s.rp x = a at *
    generalize s.rp y = c at *
    subst hne
    go_enter Try.func227, Try.ntmps227
    go_wp2_with (first
      | (go_at_call 228; (with_reducible refine HX.out.mono ?_); rintro e w1 ⟨rfl, rfl⟩; clear HX)
      | (go_at_call 228; (with_reducible refine HY.out.mono ?_); rintro e w2 ⟨rfl, rfl⟩))
    try simp only [Exit.inBlock, Exit.then]
    refine bodyPost_ret (results_none rfl _ _ _) rfl ?_
    exact ⟨rfl, by rw [HM.out]; exact HS.out, Kf.refl _ _⟩
  · obtain ⟨hi, hhi⟩ : ∃ hi, hi = max (s.rp x) (s.rp y) := ⟨_, rfl⟩
    obtain ⟨lo, hlo⟩ : ∃ lo, lo = min (s.rp x) (s.rp y) := ⟨_, rfl⟩
    obtain ⟨gp, cp, vq, u0, c1, c2, c3, c4, c5, c6, c7, A, c, w4, hrun, c8, c9, hst, hbe⟩ := merge_memR HI.out HBW.out HS.out hx hy hne hq hi lo hhi hlo
    have HAPP := Lib.hid hrun
    have HST := Lib.hid hst
    have HBE := Lib.hid hbe
    clear hrun hst hbe
    generalize mergeS s x y = s' at *
    generalize s.rp x = u at *
    generalize s.rp y = v at *
    have hu0 : (0 : Int) ≤ (u : Int) := Int.natCast_nonneg _
    have hv0 : (0 : Int) ≤ (v : Int) := Int.natCast_nonneg _
    have hdne : ((u : Int) == (v : Int)) = false := by rw [beq_eq_false_iff_ne]; omega
    have hq0 : (s.q.length : Int) ≤ 1000000 := by omega
    have hin : (hi : Int) < (s.t.length : Int) := by omega
    rcases Nat.lt_or_gt_of_ne hne with hlt | hlt
    · obtain rfl : hi = v := by omega
      obtain rfl : lo = u := by omega
      have hl1 : (lo : Int) < (hi : Int) := by omega
      have hl2 : ¬ (hi : Int) < (lo : Int) := by omega
      clear hhi hlo hlt hne
      go_enter Try.func227, Try.ntmps227
      go_wp2_with (first
        | (go_at_call 228; (with_reducible refine HX.out.mono ?_); rintro e w1 ⟨rfl, rfl⟩; clear HX)
        | (go_at_call 228; (with_reducible refine HY.out.mono ?_); rintro e w2 ⟨rfl, rfl⟩)
        | ((with_reducible refine wpList_sel 44 ?_); refine wpList_val rfl (r_app (.tmp 41) (.tmp 43) 24 rfl rfl rfl HAPP.out) ?_))
      go_end0
      exact ⟨rfl, HST.out, HBE.out⟩
    · obtain rfl : hi = u := by omega
      obtain rfl : lo = v := by omega
      have hl1 : (lo : Int) < (hi : Int) := by omega
      have hl2 : ¬ (hi : Int) < (lo : Int) := by omega
      clear hhi hlo hlt hne
      go_enter Try.func227, Try.ntmps227
      go_wp2_with (first
        | (go_at_call 228; (with_reducible refine HX.out.mono ?_); rintro e w1 ⟨rfl, rfl⟩; clear HX)
        | (go_at_call 228; (with_reducible refine HY.out.mono ?_); rintro e w2 ⟨rfl, rfl⟩)
        | ((with_reducible refine wpList_sel 44 ?_); refine wpList_val rfl (r_app (.tmp 41) (.tmp 43) 24 rfl rfl rfl HAPP.out) ?_))
      go_end0
      exact ⟨rfl, HST.out, HBE.out⟩
end Go.Proofs
namespace Go.Proofs
open Go.RowKit Go.Shelf Go.Proofs.Ct Go.Maps
end Go.Proofs
namespace Go.Proofs.Ct
theorem coinTo_stop (m : Nat) (s : St) {k : Nat} (h : (coinTo m k s).q.length ≤ k) : ∀ j, k ≤ j → coinTo m j s = coinTo m k s
  | 0, hj => by obtain rfl : k = 0 := by omega
                rfl
  | j + 1, hj => by
    rcases Nat.lt_or_ge j k with h' | h'
    · obtain rfl : k = j + 1 := by omega
      rfl
    · have ih := coinTo_stop m s h j h'
      have e : coinTo m (j + 1) s = (fun k s => if k < s.q.length then procTo (s.q.getD k 0) m s else s) j (coinTo m j s) := rfl
      rw [e, ih]
      exact if_neg (by omega)
theorem coinTo_succ (m k : Nat) (s : St) (h : k < (coinTo m k s).q.length) : coinTo m (k + 1) s = procTo ((coinTo m k s).q.getD k 0) m (coinTo m k s) := by
  have e : coinTo m (k + 1) s = (fun k s => if k < s.q.length then procTo (s.q.getD k 0) m s else s) k (coinTo m k s) := rfl
  rw [e]
  exact if_pos h
end Go.Proofs.Ct
namespace Go.Proofs
open Go.RowKit Go.Shelf Go.Proofs.Ct Go.Maps
theorem inv_len1 {g : Nat} {s : St} (h : Inv g s) (e c : Nat) (z : Int) : ∀ r, r < ({ s with t := set2 s.t e c z } : St).t.length → (({ s with t := set2 s.t e c z } : St).t.row r).length = 2 * g := fun r hr => by
  simp only [length_set2, rowlen_set2] at hr ⊢
  exact h.len r hr
set_option maxRecDepth 100000 in
set_option maxHeartbeats 4000000 in
theorem coincide154_any (g m base b lim x y : Nat) (hm : m = 2 * g) (w : World) (s : St) (hr : Ct.Rest g s) (hg : g ≤ 16) (hS : StR base b lim w s) (hbw : base ≤ w.heap.size) (hx : x < s.t.length) (hy : y < s.t.length) (hn : s.t.length ≤ 1000000) :
    Calls Try.prog 220 #[.pointer (some ⟨b, 0, none⟩), .int .i64 (x : Int), .int .i64 (y : Int)] w fun e w' => e = .returned (.tuple #[]) ∧ StR base b lim w' (coinS m s x y) ∧ Kf base w w' := by
  obtain ⟨A, c, q1, q2, -, q3, q4⟩ := hS.que
  have h0 : Inv g { s with q := [] } := ⟨hr.inv.len, hr.inv.bd, hr.inv.rl, hr.inv.rle, hr.inv.rid, hr.inv.back⟩
  have hq0 : QI g 0 0 { s with q := [] } := ⟨fun x hx hd c hc h0 => absurd h0 (by have := hr.dead x hx hd c hc; simp only at h0; omega), fun j hj => absurd hj (by simp), Nat.zero_le _, hr.lv⟩
  have hm1 := h0.merge (a := x) (b := y) hx hy
  have hqm := hq0.merge h0 (.inr ⟨rfl, rfl⟩) (a := x) (b := y) hx hy
  have hlv : -1000000 ≤ s.live ∧ s.live ≤ 1000000 := by
    have h1 := hr.lv
    have h2 := dc_le s
    omega
  have HME := Lib.hid fun W (h : StR base b lim W { s with q := [] }) (hw : base ≤ W.heap.size) => merge159_any g base b lim x y W { s with q := [] } h0 h hw hx hy hn (by simp) hlv.1 hlv.2
  have hml : (mergeS { s with q := [] } x y).t.length = s.t.length := by rw [t_merge]
  have HS0 := Lib.hid q3
  have HB0 : Hid (Kf base w (w.setCell ⟨b, 2, none⟩ (.slice none 0 0))) := Lib.hid q4
  have HEND : Hid (∀ k, (coinTo m k (mergeS { s with q := [] } x y)).q.length ≤ k → k ≤ s.t.length → coinS m s x y = coinTo m k (mergeS { s with q := [] } x y)) := Lib.hid fun k h1 h2 => coinTo_stop _ _ h1 _ h2
  have HALL : Hid (∀ k, Inv g (coinTo m k (mergeS { s with q := [] } x y)) ∧ (coinTo m k (mergeS { s with q := [] } x y)).t.length = s.t.length ∧ QI g (min k (coinTo m k (mergeS { s with q := [] } x y)).q.length) 0 (coinTo m k (mergeS { s with q := [] } x y))) := Lib.hid fun k => by
    obtain ⟨a1, a2, a3, -⟩ := coinTo_inv hm1 hqm k
    rw [← hm] at a1 a2 a3
    exact ⟨a1, a2.n.trans hml, a3⟩
  generalize mergeS { s with q := [] } x y = s1 at *
  generalize hse : coinS m s x y = se at *
  generalize hs0 : ({ s with q := [] } : St) = s0 at *
  generalize s.t.length = n at *
  have HBW := Lib.hid hbw
  have HM := Lib.hid hm
  have hm0 : (m : Int) ≤ 32 := by omega
  have hn0 : (n : Int) ≤ 1000000 := by omega
  clear h0 hq0 hm1 hqm hr hS q3 q4 hml hbw hse hs0 hlv hm
  go_enter Try.func220, Try.ntmps220
  go_wp2_with (first
    | (go_at_call 227; (with_reducible refine (HME.out _ HS0.out (Nat.le_trans HBW.out HB0.out.size)).mono ?_); rintro e w1 ⟨rfl, hs1, hb1⟩
       have HS1 := Lib.hid hs1
       have HB1 := Lib.hid (HB0.out.trans hb1)
       clear hs1 hb1))
  clear q1 q2 HS0 HB0 HME
  go_loopw [6] (fun i wr => ∃ k : Nat, i = .int .i64 k ∧ k ≤ n ∧ Hid (StR base b lim wr (coinTo m k s1)) ∧ Hid (Kf base w wr)) (fun i _ => n - (intOf i).toNat)
  case atStart => exact ⟨0, rfl, Nat.zero_le _, HS1, HB1⟩
  case round =>
    obtain ⟨k, rfl, hkn, HS, HB⟩ := hrel
    clear HS1 HB1
    have hk0 : (0 : Int) ≤ (k : Int) := Int.natCast_nonneg _
    obtain ⟨a1, a2, a3⟩ := HALL.out k
    obtain ⟨A2, c2, q1, -, q3, -⟩ := HS.out.que
    have hql : (coinTo m k s1).q.length ≤ n := by have := a3.cnt; have := dc_le (coinTo m k s1); omega
    by_cases hlt : k < (coinTo m k s1).q.length
    · rw [show min k (coinTo m k s1).q.length = k by omega] at a3
      obtain ⟨gq, rfl, hcc⟩ := q3 (by omega)
      have hck := hcc k hlt
      have hPQ := fun c (hc : c ≤ 2 * g) => proc_q a1 a3 hlt c hc
      have HN1 := Lib.hid (coinTo_succ m k s1 hlt)
      have hel := (a3.qd k hlt).1
      rw [a2] at hel
      generalize coinTo m k s1 = sk at *
      generalize sk.q.getD k 0 = e at *
      have HPQ : Hid (∀ c, c ≤ m → Inv g (procTo e c sk) ∧ QI g k c (procTo e c sk) ∧ (procTo e c sk).t.length = n) := Lib.hid fun c hc => by
        obtain ⟨p1, p2, p3, -⟩ := hPQ c (by rw [← HM.out]; exact hc)
        exact ⟨p1, p3, p2.n.trans a2⟩
      have he0 : (0 : Int) ≤ (e : Int) := Int.natCast_nonneg _
      have he1 : (e : Int) < (n : Int) := by omega
      have hkl : (k : Int) < (sk.q.length : Int) := by omega
      have hqn : (sk.q.length : Int) ≤ (n : Int) := by omega
      clear a1 a2 a3 q3 hcc hPQ
      go_wp2_with fail
      go_loopw [8] (fun j wi => ∃ c : Nat, j = .int .i64 c ∧ c ≤ m ∧ Hid (StR base b lim wi (procTo e c sk)) ∧ Hid (Kf base w wi)) (fun j _ => m - (intOf j).toNat)
      case atStart => exact ⟨0, rfl, Nat.zero_le _, HS, HB⟩
      case round =>
        clear q1 hck HS HB
        obtain ⟨c, rfl, hcm, HS, HB⟩ := hrel
        have hc0 : (0 : Int) ≤ (c : Int) := Int.natCast_nonneg _
        obtain ⟨hI, hQ, hL⟩ := HPQ.out c hcm
        have HSTEP : Hid (procTo e (c + 1) sk = stepS e c (procTo e c sk)) := Lib.hid rfl
        have hlv : -1000000 ≤ (procTo e c sk).live ∧ (procTo e c sk).live ≤ 1000000 := by
          have h1 := hQ.lv
          have h2 := dc_le (procTo e c sk)
          omega
        have hqs : (procTo e c sk).q.length ≤ 1000000 := by
          have h1 := hQ.cnt
          have h2 := dc_le (procTo e c sk)
          omega
        generalize hsn : procTo e (c + 1) sk = sn at *
        have HSN := Lib.hid hsn
        clear hsn
        by_cases hc : c < m
        · have hcI : (c : Int) < (m : Int) := by omega
          generalize procTo e c sk = sc at *
          have hel' : e < sc.t.length := by omega
          have hcg : c < 2 * g := by rw [← HM.out]; exact hc
          have hbd := hI.bd e hel' c hcg
          obtain ⟨gr, cr, bl, cs, f1, hv1, hv2⟩ := HS.out.view hI.len (by omega)
          have f2 := hv1 e hel'
          obtain ⟨f3, f4, f5⟩ := hv2 e c hel' hcg
          have HF5 := Lib.hid f5
          rw [hL] at f1
          rw [← HM.out] at f2
          clear hv1 hv2 f5
          by_cases hd : sc.t.at e c < 0
          · have HE : Hid (stepS e c sc = sc) := Lib.hid (by unfold stepS; rw [if_pos hd])
            have hbd1 := hbd.1
            clear hI hQ hbd hlv hqs f4 HF5
            generalize sc.t.at e c = d at *
            generalize bl e = be at *
            generalize cs e = ke at *
            go_wp2_with fail
            go_roundw
            case rel => exact ⟨c + 1, by go_num, by omega, by rw [HSN.out, HSTEP.out, HE.out]; exact HS, HB⟩
            case measure => simp [intOf]; omega
          · obtain ⟨d, hde⟩ : ∃ d : Nat, sc.t.at e c = (d : Int) := ⟨(sc.t.at e c).toNat, by omega⟩
            have hd' : 0 ≤ sc.t.at e c := by omega
            have hcut := hI.cut hel' hcg hd'
            have hdl : d < n := by omega
            have hfg : flp c < 2 * g := flp_lt2 hcg
            have hfm : flp c < m := by rw [HM.out]; exact hfg
            have hfe := flp_eq c (by omega)
            have hf0 : (0 : Int) ≤ ((flp c : Nat) : Int) := Int.natCast_nonneg _
            have hf1 : ((flp c : Nat) : Int) < (m : Int) := by omega
            have hd0 : (0 : Int) ≤ (d : Int) := Int.natCast_nonneg _
            have hd1 : (d : Int) < (n : Int) := by omega
            have HSE : Hid (stepS e c sc = if 0 ≤ (cutT sc.t e c).at (sc.rp e) c then mergeS { sc with t := cutT sc.t e c } ((cutT sc.t e c).at (sc.rp e) c).toNat (sc.rp d) else
                if 0 ≤ (cutT sc.t e c).at (sc.rp d) (flp c) then mergeS { sc with t := cutT sc.t e c } ((cutT sc.t e c).at (sc.rp d) (flp c)).toNat (sc.rp e) else { sc with t := joinT (cutT sc.t e c) (sc.rp e) c (sc.rp d) }) := Lib.hid (by
              unfold stepS
              rw [if_neg hd, hde, Int.toNat_natCast])
            have HCT : Hid (cutT sc.t e c = set2 (set2 sc.t e c (-1)) d (flp c) (-1)) := Lib.hid (by unfold cutT; rw [hde, Int.toNat_natCast])
            have hst1 := (HF5.out (-1)).1
            have hbe1 := (HF5.out (-1)).2
            rw [hde] at f3
            generalize bl e = be at *
            generalize cs e = ke at *
            have HB1 := Lib.hid (HB.out.trans hbe1)
            have hlen1 : ({ sc with t := set2 sc.t e c (-1) } : St).t.length = sc.t.length := length_set2 _ _ _ _
            obtain ⟨gr1, cr1, bl1, cs1, p1, hv1, hv2⟩ := hst1.view (inv_len1 hI e c (-1)) (by rw [hlen1]; omega)
            have p2 := hv1 d (by rw [hlen1]; omega)
            obtain ⟨p3, p4, p5⟩ := hv2 d (flp c) (by rw [hlen1]; omega) hfg
            rw [hlen1, hL] at p1
            rw [← HM.out] at p2
            have hst2 := (p5 (-1)).1
            have HB2 := Lib.hid (HB1.out.trans (p5 (-1)).2)
            have hse2 : ({ ({ sc with t := set2 sc.t e c (-1) } : St) with t := set2 (set2 sc.t e c (-1)) d (flp c) (-1) } : St) = { sc with t := cutT sc.t e c } := by rw [HCT.out]
            rw [hse2] at hst2
            have HP := Lib.hid (⟨p1, p2, p3, p4⟩ : _ ∧ _ ∧ _ ∧ _)
            have HST := Lib.hid hst2
            clear hv1 hv2 p1 p2 p3 p4 p5 hst1 hst2 hbe1 hse2 HF5 hd
            go_upto_region 12 with fail
            generalize wr.setCell ⟨be, c, none⟩ (.int .i64 (-1)) = w1 at *
            clear f1 f2 f3 f4
            obtain ⟨p1, p2, p3, p4⟩ := HP.out
            generalize bl1 d = bd at *
            generalize cs1 d = kd at *
            go_upto_region 13 with fail
            generalize w1.setCell ⟨bd, flp c, none⟩ (.int .i64 (-1)) = w2 at *
            clear p1 p2 p3 p4 HP
            generalize hs1e : ({ sc with t := cutT sc.t e c } : St) = s2 at *
            have hL2 : s2.t.length = n := by rw [← hs1e]; exact (length_cut _ _ _).trans hL
            have ht2 : s2.t = cutT sc.t e c := by rw [← hs1e]
            have hrp : ∀ z, s2.rp z = sc.rp z := fun z => by rw [← hs1e]; rfl
            have hlv2 : -1000000 ≤ s2.live ∧ s2.live ≤ 1000000 := by rw [← hs1e]; exact hlv
            have hqs2 : s2.q.length ≤ 1000000 := by rw [← hs1e]; exact hqs
            have hjoin : ({ sc with t := joinT s2.t (s2.rp e) c (s2.rp d) } : St) = joinS s2 (s2.rp e) c (s2.rp d) := by rw [← hs1e]; rfl
            rw [← ht2, ← hrp e, ← hrp d, hjoin] at HSE
            have hu : s2.rp e < n := by have := hcut.rlt (x := e) (by omega); omega
            have hv : s2.rp d < n := by have := hcut.rlt (x := d) (by omega); omega
            have hb1 := hcut.bd (s2.rp e) (by omega) c hcg
            have hb2 := hcut.bd (s2.rp d) (by omega) (flp c) hfg
            have HFE := Lib.hid (rep160_any g base b lim e w2 s2 hcut HST.out (by omega) (by omega))
            have HFD := Lib.hid (rep160_any g base b lim d w2 s2 hcut HST.out (by omega) (by omega))
            have HME2 : Hid (∀ (p q : Nat), p < n → q < n → Calls Try.prog 227 #[.pointer (some ⟨b, 0, none⟩), .int .i64 (p : Int), .int .i64 (q : Int)] w2 fun e w' => e = .returned (.tuple #[]) ∧ StR base b lim w' (mergeS s2 p q) ∧ Kf base w2 w') := Lib.hid fun p q h1 h2 =>
              merge159_any g base b lim p q w2 s2 hcut HST.out (Nat.le_trans HBW.out HB2.out.size) (by omega) (by omega) (by omega) hqs2 hlv2.1 hlv2.2
            obtain ⟨gr2, cr2, bl2, cs2, p1, hv1, hv2⟩ := HST.out.view hcut.len (by omega)
            have pu := hv1 (s2.rp e) (by omega)
            have pv := hv1 (s2.rp d) (by omega)
            obtain ⟨pu1, pu2, pu3⟩ := hv2 (s2.rp e) c (by omega) hcg
            obtain ⟨pv1, pv2, -⟩ := hv2 (s2.rp d) (flp c) (by omega) hfg
            rw [hL2] at p1
            rw [← HM.out] at pu pv
            have HLEN : Hid (∀ z, ∀ r, r < ({ s2 with t := set2 s2.t (s2.rp e) c z } : St).t.length → (({ s2 with t := set2 s2.t (s2.rp e) c z } : St).t.row r).length = 2 * g) := Lib.hid fun z => inv_len1 hcut (s2.rp e) c z
            have hj2 : ∀ u v : Nat, ({ ({ s2 with t := set2 s2.t u c (v : Int) } : St) with t := set2 (set2 s2.t u c (v : Int)) v (flp c) (u : Int) } : St) = joinS s2 u c v := fun u v => rfl
            have HJ2 := Lib.hid (hj2 (s2.rp e) (s2.rp d))
            have HPU3 := Lib.hid (pu3 ((s2.rp d : Nat) : Int))
            have HL2 := Lib.hid hL2
            clear hjoin hs1e hlv2 hqs2 hlv hqs hrp ht2 hcut hI hQ pu3 hv1 hv2 hj2 hL2
            generalize s2.t.at (s2.rp e) c = y1 at *
            generalize s2.t.at (s2.rp d) (flp c) = y2 at *
            generalize hsj : joinS s2 (s2.rp e) c (s2.rp d) = sj at *
            clear hsj
            generalize hue : s2.rp e = u at *
            generalize hve : s2.rp d = v at *
            clear hue hve
            have hu0 : (0 : Int) ≤ (u : Int) := Int.natCast_nonneg _
            have hv0 : (0 : Int) ≤ (v : Int) := Int.natCast_nonneg _
            have hu1 : (u : Int) < (n : Int) := by omega
            have hv1 : (v : Int) < (n : Int) := by omega
            by_cases h1 : 0 ≤ y1
            · obtain ⟨z1, rfl⟩ : ∃ z : Nat, y1 = (z : Int) := ⟨y1.toNat, by omega⟩
              have HRES : Hid (stepS e c sc = mergeS s2 v z1) := Lib.hid (by rw [HSE.out, if_pos h1, Int.toNat_natCast, merge_comm])
              have HLAST := Lib.hid (HME2.out v z1 (by omega) (by rw [HL2.out] at hb1; omega))
              clear HME2 HPU3 HJ2
              generalize mergeS s2 v z1 = s9 at *
              generalize bl2 u = bu at *
              generalize cs2 u = ku at *
              generalize bl2 v = bv at *
              generalize cs2 v = kv at *
              go_wp2_with (first
                | (go_at_call 228; (with_reducible refine HFE.out.mono ?_); rintro E w10 ⟨rfl, rfl⟩; clear HFE)
                | (go_at_call 228; (with_reducible refine HFD.out.mono ?_); rintro E w11 ⟨rfl, rfl⟩; clear HFD)
                | (go_at_call 227; (with_reducible refine HLAST.out.mono ?_); rintro E w12 ⟨rfl, hs3, hb3⟩
                   have HS12 := Lib.hid hs3
                   have HB12 := Lib.hid (HB2.out.trans hb3)
                   clear hs3 hb3))
              go_roundw
              case rel => exact ⟨c + 1, by go_num, by omega, by rw [HSN.out, HSTEP.out, HRES.out]; exact HS12, HB12⟩
              case measure => simp [intOf]; omega
            · have h1' : y1 < 0 := by omega
              by_cases h2 : 0 ≤ y2
              · obtain ⟨z2, rfl⟩ : ∃ z : Nat, y2 = (z : Int) := ⟨y2.toNat, by omega⟩
                have HRES : Hid (stepS e c sc = mergeS s2 u z2) := Lib.hid (by rw [HSE.out, if_neg h1, if_pos h2, Int.toNat_natCast, merge_comm])
                have HLAST := Lib.hid (HME2.out u z2 (by omega) (by rw [HL2.out] at hb2; omega))
                clear HME2 HPU3 HJ2 h1
                generalize mergeS s2 u z2 = s9 at *
                generalize bl2 u = bu at *
                generalize cs2 u = ku at *
                generalize bl2 v = bv at *
                generalize cs2 v = kv at *
                go_wp2_with (first
                  | (go_at_call 228; (with_reducible refine HFE.out.mono ?_); rintro E w10 ⟨rfl, rfl⟩; clear HFE)
                  | (go_at_call 228; (with_reducible refine HFD.out.mono ?_); rintro E w11 ⟨rfl, rfl⟩; clear HFD)
                  | (go_at_call 227; (with_reducible refine HLAST.out.mono ?_); rintro E w12 ⟨rfl, hs3, hb3⟩
                     have HS12 := Lib.hid hs3
                     have HB12 := Lib.hid (HB2.out.trans hb3)
                     clear hs3 hb3))
                go_roundw
                case rel => exact ⟨c + 1, by go_num, by omega, by rw [HSN.out, HSTEP.out, HRES.out]; exact HS12, HB12⟩
                case measure => simp [intOf]; omega
              · have h2' : y2 < 0 := by omega
                have HRES : Hid (stepS e c sc = sj) := Lib.hid (by rw [HSE.out, if_neg h1, if_neg h2])
                clear HME2 h1 h2
                obtain ⟨hst3, hbe3⟩ := HPU3.out
                have hlen3 : ({ s2 with t := set2 s2.t u c (v : Int) } : St).t.length = n := (length_set2 _ _ _ _).trans HL2.out
                obtain ⟨gr3, cr3, bl3, cs3, r1, hv3, hv4⟩ := hst3.view (HLEN.out _) (by rw [hlen3]; omega)
                have r2 := hv3 v (by rw [hlen3]; omega)
                obtain ⟨r3, r4, r5⟩ := hv4 v (flp c) (by rw [hlen3]; omega) hfg
                rw [hlen3] at r1
                rw [← HM.out] at r2
                have hst4 := (r5 (u : Int)).1
                have HB4 := Lib.hid ((HB2.out.trans hbe3).trans (r5 (u : Int)).2)
                rw [HJ2.out] at hst4
                have HST4 := Lib.hid hst4
                have HR := Lib.hid (⟨r1, r2, r3, r4⟩ : _ ∧ _ ∧ _ ∧ _)
                clear hst3 hbe3 hv3 hv4 r1 r2 r3 r4 r5 hst4 HPU3 HJ2 HLEN
                generalize bl2 u = bu at *
                generalize cs2 u = ku at *
                generalize bl2 v = bv at *
                generalize cs2 v = kv at *
                generalize bl3 v = bw at *
                generalize cs3 v = kw at *
                go_upto_region 15 with (first
                  | (go_at_call 228; (with_reducible refine HFE.out.mono ?_); rintro E w10 ⟨rfl, rfl⟩; clear HFE)
                  | (go_at_call 228; (with_reducible refine HFD.out.mono ?_); rintro E w11 ⟨rfl, rfl⟩; clear HFD))
                generalize w2.setCell ⟨bu, c, none⟩ (.int .i64 (v : Int)) = w3 at *
                clear p1 pu pv pu1 pu2 pv1 pv2
                obtain ⟨r1, r2, r3, r4⟩ := HR.out
                go_wp2_with fail
                go_roundw
                case rel => exact ⟨c + 1, by go_num, by omega, by rw [HSN.out, HSTEP.out, HRES.out]; exact HST4, HB4⟩
                case measure => simp [intOf]; omega
        · obtain rfl : c = m := by omega
          obtain ⟨gr, cr, bl, cs, f1, hv1, hv2⟩ := HS.out.view hI.len (by omega)
          have f2 := hv1 e (by omega)
          have HNX := Lib.hid HN1.out
          rw [hL] at f1
          rw [← HM.out] at f2
          generalize bl e = be at *
          generalize cs e = ke at *
          clear hv1 hv2 hI hQ hlv hqs
          go_wp2_with fail
          go_roundw
          case rel => exact ⟨k + 1, by go_num, by omega, by rw [HNX.out]; exact HS, HB⟩
          case measure => simp [intOf]; omega
    · have HE : Hid (se = coinTo m k s1) := Lib.hid (HEND.out k (by omega) hkn)
      have hkl : ¬ (k : Int) < ((coinTo m k s1).q.length : Int) := by omega
      generalize coinTo m k s1 = sk at *
      clear a1 a2 a3 q3 hlt
      go_wp2_with fail
      go_end0
      exact ⟨rfl, by rw [HE.out]; exact HS.out, HB.out⟩
end Go.Proofs
namespace Go.Proofs
open Go.RowKit Go.Shelf Go.Proofs.Ct Go.Maps
theorem r_xor {o : Oper} {a : Act} {w : World} (x : Operand) (i z : Int) (ho : o.op = .binOp .xor 3 x (.const (.int .i64 1)) 3) (hx : a.eval x = .int .i64 i) (hb : bits .xor .i64 i 1 = z) : (execOp a.eval o).run Try.prog w = .ok (.value (.int .i64 z)) w := by
  have h2 : Act.eval a (.const (.int .i64 1)) = .int .i64 1 := rfl
  unfold execOp
  simp only [ho, hx, h2]
  simp [go_sem, hb]
theorem sel2 {W A B C : World} {p q : Bool} (h : W = bif p then C else bif q then B else A) (hp : p = false) : W = A ∨ W = B := by
  subst hp
  cases q
  · exact .inl h
  · exact .inr h
theorem sel3 {W A B C : World} {p q : Bool} (h : W = bif p then C else bif q then B else A) (hp : p = false) (hq : q = false) : W = A := by
  subst hp hq
  exact h
end Go.Proofs
