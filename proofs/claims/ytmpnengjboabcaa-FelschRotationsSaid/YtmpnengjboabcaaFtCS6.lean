/- rewrite.Present: what it answers; structs of type 40; the relators under way; rewrite.Present; The law of chapter 21: same, half, awake; A region that draws its order, with guarded operations: each operation is shown once; A region that draws its order, whatever it holds: each operation is shown once; One operation at a time: what it runs to; (*coset.state).find; The reference's state of an enumeration in memory; (*State).Rep; (*coset.state).coincide; slices.Repeat of one number; A state in memory while a coset is added: rows, parents and queue each by itself; Operations that make or grow a list, one at a time; what stands while a row joins; (*coset.state).add; The reference's Add: what it meets; (*coset.state).scan; The reference's Scan; (*coset.state).fill; (*coset.state).run; (*coset.state).table; coset.Enumerate: its results' cells, and the closure that it defers; coset.Enumerate: what it answers, and how its results are read. -/
import Derived.Test.YtmpnengjboabcaaFtCS5
import Derived.Deep.MidRow
import Derived.Deep.RegionHeld3
import Derived.Test.YtmpnengjboabcaaFtCS4
import Derived.BigRegion
import Derived.WalkMore
import Derived.Deep.CutBlock
import Derived.Deep.LoopGhost
import Derived.Shelf.Bits.Mul64
import Derived.Laws.CopyOwn
import Derived.Defers
import Derived.Recover
namespace Go.Proofs
open Go.RowKit Go.Shelf Go.Proofs.Ct Go.Maps
def zero40 : Array Value := #[.int .i64 0, .slice none 0 0]
theorem alloc40 (w : World) : (Instr.alloc 40 true (.tuple #[])).run Try.prog w = .ok (.pointer (some ⟨w.heap.size, 0, none⟩)) (w.alloc (.cells zero40 40)) := by kernel_rfl
theorem info40s : (Try.prog.info? 40).map (·.size) = some 2 := by kernel_rfl
theorem one40 (A : Option Addr) (n a : Nat) (x : Int) : (#[Value.int .i64 x, .slice A n a] : Array Value).all (·.oneCell') = true := by simp [Value.oneCell']
section
variable {o : Oper} {a : Act} {w w' : World} {n : Nat} {v : Value}
theorem r_store40 (x y : Operand) (ho : o.op = .store 40 x y) (g : Nat) (old c' : Array Value) (hx : a.eval x = .pointer (some ⟨g, 0, none⟩)) (hy : a.eval y = .agg c') (hg : w.heap[g]? = some (.cells old 40 (0, 0)))
    (hi : c'.size = 2) (hoo : old.size = 2) (h1 : c'.all (·.oneCell') = true) : (execOp a.eval o).run Try.prog w = .ok .skip (w.setRow g c') := by
  unfold execOp
  simp only [ho, hx, hy, Instr.storeAt, Instr.sureAddr, Sem.run_bind, Sem.run_pure, Result.andThen_ok, run_storeVar_row w g 40 40 old c' hg (by rw [hi]; exact info40s) (by rw [hi, hoo]) h1]
theorem r_alloc40 (ho : o.op = .alloc 40) : (execOp a.eval o).run Try.prog w = .ok (.value (.pointer (some ⟨w.heap.size, 0, none⟩))) (w.alloc (.cells zero40 40)) := by
  have hb := alloc40 w
  unfold execOp
  simp only [ho, Sem.run_bind, hb, Result.andThen_ok]
  rfl
end
theorem results_40_tmp {fn : Func} {p q : Tmp} (h : fn.results = #[.cell p 40, .tmp q]) (tmps : Array Value) (w : World) (g : Nat) (cs : Array Value) (u : Value)
    (hp : tmps.getD p undef = .pointer (some ⟨g, 0, none⟩)) (hq : tmps.getD q undef = u) (hg : w.heap[g]? = some (.cells cs 40 (0, 0))) (hs : cs.size = 2) :
    (results fn tmps).run Try.prog w = .ok (.tuple #[.agg cs, u]) w := by
  have hp' : tmps[p]?.getD undef = .pointer (some ⟨g, 0, none⟩) := by simpa using hp
  have hq' : tmps[q]?.getD undef = u := by simpa using hq
  simp [results, h, hp', hq', asAddr, run_loadVar_row w g 40 40 cs (0, 0) _ hg Try.underlying40 rfl (by rw [hs]; exact info40s)]
structure PrSt (F : Nat → Prop) (w0 : World) (m : Int) (wr : World) (A : Option Addr) (c : Nat) (acc : List W) : Prop where
  out : OutSt 25 F w0 wr (.slice A acc.length c) acc
  box : wr.heap[w0.heap.size]? = some (.cells #[.int .i64 m, .slice A acc.length c] 40 (0, 0))
end Go.Proofs
namespace Go.Proofs
open Go.RowKit Go.Shelf Go.Proofs.Ct Go.Maps
theorem below_setRow {B : Nat} {w w1 : World} (h : Below B w w1) {g : Nat} (hg : B ≤ g) (cs : Array Value) : Below B w (w1.setRow g cs) :=
  h.trans ⟨rfl, rfl, rfl, by rw [World.setRow]; simp, fun k hk => setRow_other _ _ k _ (by omega)⟩
end Go.Proofs
namespace Go.Proofs
open Go.RowKit Go.Shelf Go.Proofs.Ct Go.Maps
theorem ints_lit (w : World) (xs : List Int) (hf : Fits xs) (n : Nat) (hn : xs.length = n) (hm : n ≤ 1000) : IntsAt (w.alloc (.cells (ints xs).toArray 3)) (.slice (some ⟨w.heap.size, 0, none⟩) n n) xs := by
  subst hn
  refine ⟨⟨_, xs.length, xs.length, rfl, by simp [ints], Nat.le_refl _, by have : xs.length ≤ 9223372036854775807 := by omega
                                                                           simpa [maxLen] using this, fun _ => ⟨w.heap.size, 0, rfl, fun j u hu => ?_⟩⟩, hf⟩
  rw [cell_of_row _ _ _ _ _ _ (heap_alloc_new w _), Nat.zero_add]
  simpa using hu
theorem tab_three (w : World) (u v z : Value) (x y q : List Int) (hu : IntsAt w u x) (hv : IntsAt w v y) (hz : IntsAt w z q) {e : TypeId} : Tab (w.alloc (.cells #[u, v, z] e)) (.slice (some ⟨w.heap.size, 0, none⟩) 3 3) [x, y, q] := by
  have hb : Below w.heap.size w (w.alloc (.cells #[u, v, z] e)) := (Below.refl _ _).alloc (Nat.le_refl _) _
  refine ⟨[u, v, z], ⟨_, 3, 3, rfl, rfl, Nat.le_refl _, by simp [maxLen], fun _ => ⟨w.heap.size, 0, rfl, fun j a ha => ?_⟩⟩, rfl, fun i hi => ?_⟩
  · rw [cell_of_row _ _ _ _ _ _ (heap_alloc_new w _), Nat.zero_add]
    simpa using ha
  · have : i = 0 ∨ i = 1 ∨ i = 2 := by simp at hi; omega
    rcases this with rfl | rfl | rfl
    · exact ⟨u, rfl, hu.below hb⟩
    · exact ⟨v, rfl, hv.below hb⟩
    · exact ⟨z, rfl, hz.below hb⟩
end Go.Proofs
namespace Go.Proofs
open Go.RowKit Go.Shelf Go.Proofs.Ct Go.Maps
structure SameM (a0 : Act) (dm : Nat → Nat) (N : Nat) (a : Act) : Prop where
  size : a.tmps.size = a0.tmps.size
  defers : a.defers = a0.defers
  out : ∀ t, (∀ i, i < N → dm i ≠ t) → a.tmps.getD t undef = a0.tmps.getD t undef
structure Tailed1 (ops : Array Oper) (N : Nat) : Prop where
  size : ops.size = N + 1
  lex : ∀ (i : Nat) (o : Oper), ops[i]? = some o → ∀ e ∈ o.after.toList, e.on < i
  succ : ∀ i, i < N → ∃ (j : Nat) (o : Oper), i < j ∧ j ≤ N ∧ ops[j]? = some o ∧ ∃ e ∈ o.after.toList, e.on = i ∧ Region.binds .any e = true
section
variable {F : Fence} {n : Nat} {P : Program} {ops : Array Oper} {Q : Exit → Act → World → Prop}
end
section
variable {n : Nat} {ops : Array Oper} {Q : Exit → Act → World → Prop} {i : Nat} {o : Oper} {K : Act → World → Prop} {a : Act} {w : World}
end
section
variable {o : Oper} {a : Act} {w w' : World} {n : Nat} {next : Act → World → Prop} {Q : Exit → Act → World → Prop} {v : Value}
theorem wpW_val (hrun : (execOp a.eval o).run Try.prog w = .ok (.value v) w') (h : next (a.put o.dst v) w') : o.wpIn Fence.wide n Try.prog a w next Q :=
  ⟨fun _ _ => trivial, by rw [Fence.wide_round, Oper.semAt_none, hrun]; exact h⟩
theorem wpW_call {f : FuncId} {args : Array Value} {R : Value → World → Prop} (hrun : (execOp a.eval o).run Try.prog w = .ok (.enter f args) w')
    (hc : Calls Try.prog f args w' fun e w'' => ∃ v, e = .returned v ∧ R v w'') (h : ∀ v w'', R v w'' → next (a.put o.dst v) w'') : o.wpIn Fence.wide n Try.prog a w next Q :=
  ⟨fun _ _ => trivial, by
    rw [Fence.wide_round, Oper.semAt_none, hrun]
    refine ⟨fun hh => by simp [Fence.wide] at hh, callsIn_wide.2 (hc.mono ?_)⟩
    rintro e w'' ⟨v, rfl, hR⟩
    exact h v w'' hR⟩
end
end Go.Proofs
namespace Go.Proofs
open Go.RowKit Go.Shelf Go.Proofs.Ct Go.Maps
structure Part (a0 : Act) (dm : Nat → Option Tmp) (N : Nat) (ls : Nat → Bool) (a : Act) : Prop where
  size : a.tmps.size = a0.tmps.size
  defers : a.defers = a0.defers
  out : ∀ t, (∀ i, i < N → ls i = true → dm i ≠ some t) → a.tmps.getD t undef = a0.tmps.getD t undef
theorem Part.put {a0 a : Act} {dm : Nat → Option Tmp} {N i : Nat} {ls : Nat → Bool} (h : Part a0 dm N ls a) (hi : i < N) (v : Value) : Part a0 dm N (fun j => if i = j then true else ls j) (a.put (dm i) v) := by
  refine ⟨?_, ?_, fun t ht => ?_⟩
  · cases hd : dm i with
    | none => exact h.size
    | some t => simpa [Act.put] using h.size
  · cases hd : dm i with
    | none => exact h.defers
    | some t => exact h.defers
  · have h1 : ∀ j, j < N → ls j = true → dm j ≠ some t := fun j hj hl => ht j hj (by simp [hl])
    have h2 := ht i hi (by rw [if_pos rfl])
    rw [← h.out t h1]
    cases hd : dm i with
    | none => rfl
    | some t' => exact put_getD_ne _ _ _ _ (fun e => h2 (by rw [hd, e]))
def slotv (a : Act) : Option Tmp → Value
  | some t => a.tmps.getD t undef
  | none => undef
def lexB (ops : Array Oper) : Bool := (List.range ops.size).all fun i => match ops[i]? with | some o => o.after.toList.all fun e => decide (e.on < i) || !Region.binds .any e | none => true
theorem lex_of {ops : Array Oper} (h : lexB ops = true) : ∀ (i : Nat) (o : Oper), ops[i]? = some o → ∀ e ∈ o.after.toList, Region.binds .any e = true → e.on < i := fun i o ho e he hb => by
  unfold lexB at h
  rw [List.all_eq_true] at h
  have hi : i < ops.size := (Array.getElem?_eq_some_iff.1 ho).1
  have := h i (by simpa using hi)
  rw [ho] at this
  rw [List.all_eq_true] at this
  have h2 := this e he
  rw [hb] at h2
  simpa using h2
section
variable {F : Fence} {n : Nat} {P : Program} {ops : Array Oper} {Q : Exit → Act → World → Prop}
theorem wpIn_region_all {id : Nat} {a0 : Act} {w : World} (hm : P.follows .mixedOrders = true) (N : Nat) (hN : ops.size = N) (dm : Nat → Option Tmp) (hlex : ∀ (i : Nat) (o : Oper), ops[i]? = some o → ∀ e ∈ o.after.toList, Region.binds .any e = true → e.on < i)
    (S : (Nat → Bool) → World → Prop) (Φ : Nat → Value → World → Prop) (G : Nat → World → World → Prop)
    (hdm : ∀ i j t, i < N → j < N → dm i = some t → dm j = some t → i = j)
    (hΦ : ∀ i j v w w', i < N → j < N → i ≠ j → G i w w' → Φ j v w → Φ j v w')
    (hsz : ∀ i t, i < N → dm i = some t → t < a0.tmps.size) (h0 : S (fun _ => false) w.drew)
    (hop : ∀ (ls : Nat → Bool) (i : Nat) (o : Oper) (a : Act) (w : World), i < N → ops[i]? = some o → S ls w → ls i = false → (∀ (j : Nat) (oj : Oper), ops[j]? = some oj → ls j = true → ∀ e ∈ oj.after.toList, Region.binds .any e = true → ls e.on = true) → Part a0 dm N ls a →
      (∀ e ∈ o.after.toList, Region.binds .any e = true → ls e.on = true ∧ Φ e.on (slotv a (dm e.on)) w) →
      wpOpIn F n P ops Q i (fun a' w' => ∃ v, a' = a.put (dm i) v ∧ S (fun j => if i = j then true else ls j) w' ∧ G i w w' ∧ (dm i = none → v = undef) ∧ Φ i v w') a w)
    (hend : ∀ (ls : Nat → Bool) (a : Act) (w : World), (∀ i, i < N → ls i = true) → S ls w → Part a0 dm N ls a → (∀ i, i < N → Φ i (slotv a (dm i)) w) → Q .normal a w) :
    (Code.region id ops true).wpIn F n P Q a0 w := by
  subst hN
  refine wpIn_region_any hm ?_
  refine wpAnyIn_inv (fun listed a w => Closed ops listed ∧ S (fun j => listed.getD j false) w ∧ Part a0 dm ops.size (fun j => listed.getD j false) a ∧ ∀ i, i < ops.size → listed.getD i false = true → Φ i (slotv a (dm i)) w) ?_ ?_ ops.size _ a0 _ (by simp) ?_ ⟨fun i o ho h => ?_, ?_, ⟨rfl, rfl, fun _ _ => rfl⟩, fun i hi h => ?_⟩
  · rintro listed a w i hls ⟨hcl, hS, hP, hsl⟩ hi
    obtain ⟨h1, h2, o, ho, hpre⟩ := ready_mem hi
    rw [getD_true_false (by omega)] at h2
    have hsetD : ∀ j, (listed.setIfInBounds i true).getD j false = if i = j then true else listed.getD j false := fun j => getD_set_listed (by omega)
    have hcl' : Closed ops (listed.setIfInBounds i true) := fun j oj hoj hl e he hb => by
      rw [hsetD] at hl ⊢
      by_cases eij : i = j
      · subst eij
        rw [ho] at hoj; cases hoj
        have := hpre e he hb
        split
        · rfl
        · exact this
      · rw [if_neg eij] at hl
        have := hcl j oj hoj hl e he hb
        split
        · rfl
        · exact this
    have hwp := hop _ i o a w h1 ho hS h2 (fun j oj hoj hl => hcl j oj hoj hl) hP (fun e he hb => ⟨hpre e he hb, hsl e.on (by have := hlex i o ho e he hb; omega) (hpre e he hb)⟩)
    refine wpOpIn_mono (fun a' w' h => ?_) hwp
    obtain ⟨v, rfl, hS', hG, hvn, hv⟩ := h
    rw [show (fun j => if i = j then true else listed.getD j false) = (fun j => (listed.setIfInBounds i true).getD j false) from (funext hsetD).symm] at hS'
    have hP' := hP.put h1 v
    rw [show (fun j => if i = j then true else listed.getD j false) = (fun j => (listed.setIfInBounds i true).getD j false) from (funext hsetD).symm] at hP'
    refine ⟨hcl', hS', hP', fun j hj hl => ?_⟩
    by_cases e : i = j
    · subst e
      have : slotv (a.put (dm i) v) (dm i) = v := by
        cases hdi : dm i with
        | none => rw [hvn hdi]; rfl
        | some t => exact put_getD_same _ _ _ (by rw [hP.size]; exact hsz i t h1 hdi)
      rw [this]
      exact hv
    · rw [hsetD, if_neg e] at hl
      have := hΦ i j _ _ _ h1 hj e hG (hsl j hj hl)
      have hv' : slotv (a.put (dm i) v) (dm j) = slotv a (dm j) := by
        cases hdj : dm j with
        | none => rfl
        | some t =>
          cases hdi : dm i with
          | none => rfl
          | some t' => exact put_getD_ne _ _ _ _ (fun e' => e (hdm i j t h1 hj (by rw [hdi, e']) hdj))
      rw [hv']
      exact this
  · rintro listed a w hls ⟨hcl, hS, hP, hsl⟩ hr
    have hready : ∀ i, i < ops.size → listed.getD i false = true := by
      intro i
      induction i using Nat.strongRecOn with
      | _ i ih =>
        intro hi
        rcases hl : listed.getD i false with _ | _
        · have hmem : i ∈ Region.ready .any ops listed := by
            simp only [Region.ready, List.mem_filter, List.mem_range, Bool.and_eq_true, Bool.not_eq_true']
            refine ⟨hi, by rw [getD_true_false (by omega)]; exact hl, ?_⟩
            rw [Array.getElem?_eq_getElem hi]
            simp only [Option.map_some, Option.getD_some]
            rw [Array.all_eq_true_iff_forall_mem]
            intro e he
            by_cases hb : Region.binds .any e = true
            · have hlt := hlex i _ (Array.getElem?_eq_getElem hi) e (by simpa using he) hb
              simp [ih e.on hlt (by omega)]
            · simp [hb]
          rw [hr] at hmem; cases hmem
        · rfl
    exact hend _ a w hready hS hP (fun i hi => hsl i hi (hready i hi))
  · simp
  · have : (Array.replicate ops.size false).getD i false = false := by
      simp only [Array.getD_eq_getD_getElem?, Array.getElem?_replicate]; split <;> rfl
    rw [this] at h; cases h
  · rw [show (fun j => (Array.replicate ops.size false).getD j false) = (fun _ => false) from funext fun j => by simp only [Array.getD_eq_getD_getElem?, Array.getElem?_replicate]; split <;> rfl]
    exact h0
  · have : (Array.replicate ops.size false).getD i false = false := by
      simp only [Array.getD_eq_getD_getElem?, Array.getElem?_replicate]; split <;> rfl
    rw [this] at h; cases h
end
theorem not_yet {ops : Array Oper} {ls : Nat → Bool} (hcl : ∀ (j : Nat) (oj : Oper), ops[j]? = some oj → ls j = true → ∀ e ∈ oj.after.toList, Region.binds .any e = true → ls e.on = true) (j : Nat) {oj : Oper} (hoj : ops[j]? = some oj) (e : Edge) (he : e ∈ oj.after.toList) (hb : Region.binds .any e = true) (h : ls e.on = false) : ls j = false := by
  cases hj : ls j with
  | false => rfl
  | true => rw [hcl j oj hoj hj e he hb] at h; cases h
theorem dm_out {dm : Nat → Option Tmp} {N t : Nat} {ls : Nat → Bool} (h : (List.range N).all (fun i => !(dm i == some t)) = true) : ∀ i, i < N → ls i = true → dm i ≠ some t := fun i hi _ e => by
  rw [List.all_eq_true] at h
  have := h i (by simpa using hi)
  rw [e] at this
  simp at this
theorem dm_out1 {dm : Nat → Option Tmp} {N t k : Nat} {ls : Nat → Bool} (hk : ls k = false) (h : (List.range N).all (fun i => !(dm i == some t) || i == k) = true) : ∀ i, i < N → ls i = true → dm i ≠ some t := fun i hi hl e => by
  rw [List.all_eq_true] at h
  have := h i (by simpa using hi)
  rw [e] at this
  have h2 : i = k := by simpa using this
  rw [h2, hk] at hl
  cases hl
theorem dm_inj {dm : Nat → Option Tmp} {N : Nat} (h : (List.range N).all (fun i => (List.range N).all fun j => (i == j) || (dm i == none) || !(dm i == dm j)) = true) : ∀ i j t, i < N → j < N → dm i = some t → dm j = some t → i = j := fun i j t hi hj e1 e2 => by
  rw [List.all_eq_true] at h
  have h1 := h i (by simpa using hi)
  rw [List.all_eq_true] at h1
  have h2 := h1 j (by simpa using hj)
  rw [e1, e2] at h2
  simpa using h2
theorem dm_lt {dm : Nat → Option Tmp} {N n : Nat} (h : (List.range N).all (fun i => match dm i with | some t => decide (t < n) | none => true) = true) : ∀ i t, i < N → dm i = some t → t < n := fun i t hi e => by
  rw [List.all_eq_true] at h
  have := h i (by simpa using hi)
  rw [e] at this
  simpa using this
theorem Part.frame {a0 a : Act} {dm : Nat → Option Tmp} {N : Nat} {ls : Nat → Bool} (h : Part a0 dm N ls a) (n : Nat) (hn : a0.tmps.size = n) :
    ∃ vs : Nat → Value, (∀ t, vs t = a.tmps.getD t undef) ∧ a = { tmps := ((List.range n).map fun t => if (List.range N).any (fun i => dm i == some t) then vs t else a0.tmps.toList.getD t undef).toArray, defers := a0.defers } := by
  refine ⟨fun t => a.tmps.getD t undef, fun _ => rfl, ?_⟩
  obtain ⟨t, d⟩ := a
  have hd := h.defers
  have hs := h.size
  have ho := h.out
  simp only at hd hs ho
  subst hd
  congr 1
  apply Array.ext'
  apply List.ext_getElem?
  intro i
  rcases Nat.lt_or_ge i n with hi | hi
  · have hit : i < t.size := by omega
    have hg : t.toList[i]? = some (t.getD i undef) := by simp [Array.getD, hit]
    rw [hg]
    simp only [List.getElem?_map, List.getElem?_range hi, Option.map_some]
    congr 1
    by_cases hx : (List.range N).any (fun q => dm q == some i) = true
    · rw [if_pos hx]
    · rw [if_neg hx]
      rw [ho i (fun j hj _ e => hx ?_)]
      · simp [Array.getD_eq_getD_getElem?, List.getD_eq_getElem?_getD]
      · rw [List.any_eq_true]
        exact ⟨j, by simpa using hj, by simpa using e⟩
  · rw [List.getElem?_eq_none (by simpa using (by omega : t.size ≤ i)), List.getElem?_eq_none (by simpa using hi)]
end Go.Proofs
namespace Go.Proofs
open Go.RowKit Go.Shelf Go.Proofs.Ct Go.Maps
section
variable {o : Oper} {a : Act} {w w' : World} {n : Nat} {next : Act → World → Prop} {Q : Exit → Act → World → Prop} {v : Value}
theorem wpW_skip (hrun : (execOp a.eval o).run Try.prog w = .ok .skip w') (h : next (a.put o.dst undef) w') : o.wpIn Fence.wide n Try.prog a w next Q :=
  ⟨fun _ _ => trivial, by rw [Fence.wide_round, Oper.semAt_none, hrun]; exact h⟩
theorem r_nil (x : Operand) (ad : Addr) (ho : o.op = .nilCheck x) (hx : a.eval x = .pointer (some ad)) : (execOp a.eval o).run Try.prog w = .ok (.value (.pointer (some ad))) w := by
  unfold execOp; simp only [ho, hx]; rfl
theorem agg3 (w : World) : (isAgg 3).run Try.prog w = .ok false w := by kernel_rfl
theorem agg22 (w : World) : (isAgg 22).run Try.prog w = .ok false w := by kernel_rfl
theorem agg24 (w : World) : (isAgg 24).run Try.prog w = .ok false w := by kernel_rfl
theorem r_load1 (T : TypeId) (hT : ∀ w, (isAgg T).run Try.prog w = .ok false w) (x : Operand) (ad : Addr) (ho : o.op = .load T x) (hx : a.eval x = .pointer (some ad)) (hc : w.cell? ad = some v) : (execOp a.eval o).run Try.prog w = .ok (.value v) w := by
  unfold execOp
  simp only [ho, hx, Instr.loadAt, Instr.sureAddr, loadVar, Sem.run_bind, Sem.run_pure, Result.andThen_ok, hT]
  simp [go_sem, hc]
theorem idx_sl {T E : TypeId} (hu : Try.prog.underlying T = some (.slice E)) (hs : ∀ w, (sizeOf E).run Try.prog w = .ok 1 w) (g m c i : Nat) (hi : i < m) (w : World) :
    (Instr.indexAt T (.slice (some ⟨g, 0, none⟩) m c) (.int .i64 (i : Int))).run Try.prog w = .ok (.pointer (some ⟨g, i, none⟩)) w := by
  have h1 : (0 : Int) ≤ (i : Int) ∧ (i : Int) < (m : Int) := ⟨by omega, by omega⟩
  have h2 := Addr.add_mid g 0 i
  rw [Nat.zero_add] at h2
  simp [Instr.indexAt, asIntOf, run_underlying hu, hs, h2, hi]
theorem size3 (w : World) : (sizeOf 3).run Try.prog w = .ok 1 w := by kernel_rfl
theorem size24 (w : World) : (sizeOf 24).run Try.prog w = .ok 1 w := by kernel_rfl
theorem r_idx {T : Nat} (x y : Operand) (ad i : Value) (ho : o.op = .indexAddr T x y) (hx : a.eval x = ad) (hy : a.eval y = i) (hf : (Instr.indexAt T ad i).run Try.prog w = .ok v w) : (execOp a.eval o).run Try.prog w = .ok (.value v) w := by
  unfold execOp; simp only [ho, hx, hy, Sem.run_bind, hf, Result.andThen_ok]; rfl
theorem r_store1 (T : TypeId) (x y : Operand) (ad : Addr) (u v : Value) (ho : o.op = .store T x y) (hx : a.eval x = .pointer (some ad)) (hy : a.eval y = v) (_h1 : ad.spot = none) (_hc : w.cell? ad = some u) (_hf : w.frozen? ad = false) (ht : (Instr.storeAt T (.pointer (some ad)) v).run Try.prog w = .ok () (w.setCell ad v)) : (execOp a.eval o).run Try.prog w = .ok .skip (w.setCell ad v) := by
  unfold execOp
  simp only [ho, hx, hy, Sem.run_bind, ht, Result.andThen_ok]
  rfl
theorem st3 (ad : Addr) (x y : Int) (hc : w.cell? ad = some (.int .i64 x)) (hf : w.frozen? ad = false) : (Instr.storeAt 3 (.pointer (some ad)) (.int .i64 y)).run Try.prog w = .ok () (w.setCell ad (.int .i64 y)) := by
  simp [Instr.storeAt, Instr.sureAddr, go_sem, hc, hf]
theorem st24 (ad : Addr) (u : Value) (A : Option Addr) (m c : Nat) (hc : w.cell? ad = some u) (hf : w.frozen? ad = false) : (Instr.storeAt 24 (.pointer (some ad)) (.slice A m c)).run Try.prog w = .ok () (w.setCell ad (.slice A m c)) := by
  simp [Instr.storeAt, Instr.sureAddr, go_sem, hc, hf]
theorem st22 (ad : Addr) (u : Value) (A : Option Addr) (m c : Nat) (hc : w.cell? ad = some u) (hf : w.frozen? ad = false) : (Instr.storeAt 22 (.pointer (some ad)) (.slice A m c)).run Try.prog w = .ok () (w.setCell ad (.slice A m c)) := by
  simp [Instr.storeAt, Instr.sureAddr, go_sem, hc, hf]
end
end Go.Proofs
namespace Go.Proofs
open Go.RowKit Go.Shelf Go.Proofs.Ct Go.Maps
structure BoxP (b wd lim : Nat) (w : World) (s : St) (vr vp vq : Value) : Prop where
  box : w.heap[b]? = some (.cells #[.int .i64 (wd : Int), .int .i64 (lim : Int), vr, vp, vq, .int .i64 s.live, .int .i64 s.most] 123 (0, 0))
def StP (base b wd lim : Nat) (w : World) (s : St) : Prop := base ≤ b ∧ ∃ P vr vp vq bl cs, BoxP b wd lim w s vr vp vq ∧ CoreM base w s P vr vp vq bl cs
end Go.Proofs
namespace Go.Proofs
open Go.RowKit Go.Shelf Go.Proofs.Ct Go.Maps
abbrev TySt (T : TypeId) : Prop := ¬ (T ≠ 3 ∧ T ≠ 24 ∧ T ≠ 131)
def Kf (base : Nat) (w w' : World) : Prop := Below base w w' ∧ ∀ (k : Nat) (C : Array Value) (T : TypeId), ¬ TySt T → w.heap[k]? = some (Obj.cells C T (0, 0)) → w'.heap[k]? = some (Obj.cells C T (0, 0))
section
variable {base : Nat} {w w1 w2 : World}
end
structure BoxR (b lim : Nat) (w : World) (s : St) (vr vp vq : Value) (f : Bool) : Prop where
  box : w.heap[b]? = some (.cells #[vr, vp, vq, .int .i64 (lim : Int), .int .i64 s.live, .int .i64 s.most, .bool f] 131 (0, 0))
section
variable {b lim : Nat} {w w' : World} {s s' : St} {vr vp vq : Value} {f : Bool}
end
def StR (base b lim : Nat) (w : World) (s : St) : Prop := base ≤ b ∧ ∃ P vr vp vq bl cs f, BoxR b lim w s vr vp vq f ∧ CoreM base w s P vr vp vq bl cs
section
variable {g base b lim : Nat} {w w' : World} {s : St}
end
end Go.Proofs
namespace Go.Proofs
open Go.RowKit Go.Shelf Go.Proofs.Ct Go.Maps
theorem r_xor {o : Oper} {a : Act} {w : World} (x : Operand) (i z : Int) (ho : o.op = .binOp .xor 3 x (.const (.int .i64 1)) 3) (hx : a.eval x = .int .i64 i) (hb : bits .xor .i64 i 1 = z) : (execOp a.eval o).run Try.prog w = .ok (.value (.int .i64 z)) w := by
  have h2 : Act.eval a (.const (.int .i64 1)) = .int .i64 1 := rfl
  unfold execOp
  simp only [ho, hx, h2]
  simp [go_sem, hb]
theorem sel2 {W A B C : World} {p q : Bool} (h : W = bif p then C else bif q then B else A) (hp : p = false) : W = A ∨ W = B := by
  subst hp
  cases q
  · exact .inl h
  · exact .inr h
theorem sel3 {W A B C : World} {p q : Bool} (h : W = bif p then C else bif q then B else A) (hp : p = false) (hq : q = false) : W = A := by
  subst hp hq
  exact h
end Go.Proofs
namespace Go.Proofs
open Go.Shelf
def Try.lays212_ren : Go.Shelf.Ren := ⟨fun | 212 => 222 | 263 => 231 | 264 => 232 | n => n, fun | 46 => 206 | 51 => 209 | 146 => 210 | 53 => 212 | 148 => 213 | n => n, fun | n => n⟩
theorem Try.lays212 : Go.Proofs.Lays.n212 Try.prog Try.lays212_ren := {
  mixed := by kernel_rfl
  f212 := Try.func222.trans (congrArg some (by kernel_rfl))
  f263 := Try.func231.trans (congrArg some (by kernel_rfl))
  f264 := Try.func232.trans (congrArg some (by kernel_rfl))
  t46 := Try.underlying206
  a46 := Try.isAgg206
  z46 := Try.sizeOf206
  v46 := Try.zeroValue206
  t51 := Try.underlying209
  a51 := Try.isAgg209
  z51 := Try.sizeOf209
  v51 := Try.zeroValue209
  t53 := Try.underlying212
  a53 := Try.isAgg212
  z53 := Try.sizeOf212
  v53 := Try.zeroValue212
  t146 := Try.underlying210
  a146 := Try.isAgg210
  z146 := Try.sizeOf210
  v146 := Try.zeroValue210
  t148 := Try.underlying213
  a148 := Try.isAgg213
  z148 := Try.sizeOf213
  v148 := Try.zeroValue213 }
end Go.Proofs
namespace Go.Proofs
open Go.RowKit Go.Proofs.Ct Go.Shelf
def rp (x : Int) (k c : Nat) : List Value := List.replicate k (.int .i64 x) ++ List.replicate (c - k) (.int .i64 0)
theorem length_rp (x : Int) {k c : Nat} (h : k ≤ c) : (rp x k c).length = c := by simp [rp]; omega
theorem rp_get (x : Int) {k c j : Nat} (_h : k ≤ c) (hj : j < c) : (rp x k c)[j]? = some (.int .i64 (if j < k then x else 0)) := by
  unfold rp
  rw [List.getElem?_append]
  simp only [List.length_replicate, List.getElem?_replicate]
  by_cases h1 : j < k
  · simp [h1]
  · simp [h1]; omega
theorem rp_step (x : Int) {k m c : Nat} (h : k + m ≤ c) : (rp x k c).take k ++ List.replicate m (.int .i64 x) ++ (rp x k c).drop (k + m) = rp x (k + m) c := by
  have h1 : (rp x k c).take k = List.replicate k (.int .i64 x) := by
    unfold rp
    rw [List.take_append_of_le_length (by simp)]
    simp
  have h2 : (rp x k c).drop (k + m) = List.replicate (c - (k + m)) (.int .i64 0) := by
    unfold rp
    rw [List.drop_append, List.drop_replicate, List.length_replicate, List.drop_replicate]
    rw [show k - (k + m) = 0 by omega, show c - k - (k + m - k) = c - (k + m) by omega]
    simp
  rw [h1, h2, List.replicate_append_replicate]
  rfl
theorem make24r (w : World) (n : Nat) (hn : n ≤ 100000) : (Instr.makeSlice 24 (.int .i64 (n : Int)) (.int .i64 (n : Int))).run Try.prog w =
    .ok (.slice (some ⟨w.heap.size, 0, none⟩) n n) (w.alloc (.cells (Array.replicate n (.int .i64 0)) 3)) := by
  obtain ⟨i, hi, hz, hs, hb⟩ := info3p
  have := run_makeSlice (P := Try.prog) w 24 3 i (.int .i64 0) Try.underlying24 hi hz .i64 .i64 n n (by omega) (Int.le_refl _) (by rw [hs]; simp; omega) (by rw [hb]; omega) (by omega)
  rw [this, hs, Int.toNat_natCast, Nat.mul_one, made3]
theorem copy_double {w : World} {g c k m : Nat} {x : Int} (hg : w.heap[g]? = some (.cells (rp x k c).toArray 3 (0, 0))) (hk : k ≤ c) (hm : m = min k (c - k)) (ty : TypeId) :
    (Builtin.copy_ #[24, 24] ty #[.slice (some ⟨g, k, none⟩) (c - k) (c - k), .slice (some ⟨g, 0, none⟩) k c]).run Try.prog w = .ok (.int .i64 m) (w.setRow g (rp x (k + m) c).toArray) := by
  have h3 : (Try.prog.info? 3).map (·.size) = some 1 := by kernel_rfl
  have := run_copy_row (P := Try.prog) w 24 24 ty 3 g k (c - k) (c - k) ⟨g, 0, none⟩ k c (rp x k c).toArray 3 (List.replicate m (.int .i64 x)) Try.underlying24 h3 hg (by rw [List.length_replicate, hm]; first | rfl | done)
    (fun j v hv => by
      have hj : j < m := by have := (List.getElem?_eq_some_iff.1 hv).1; simpa using this
      rw [Addr.add_lit, Nat.zero_add, cell_of_row _ _ _ _ _ _ hg, List.getElem?_toArray, rp_get x hk (by omega), if_pos (by omega), ← hv]
      simp [hj]) (by rw [List.size_toArray, length_rp x hk, List.length_replicate]; omega) (fun v hv => by rw [(List.mem_replicate.1 hv).2]; rfl)
  rw [this]
  simp only [List.length_replicate]
  rw [rp_step x (by omega)]
  rfl
theorem copy_first {w : World} {g c b o cc : Nat} {x : Int} (hg : w.heap[g]? = some (.cells (rp x 0 c).toArray 3 (0, 0))) (hc : 0 < c) (hb : w.cell? ⟨b, o, none⟩ = some (.int .i64 x)) (ty : TypeId) :
    (Builtin.copy_ #[24, 24] ty #[.slice (some ⟨g, 0, none⟩) c c, .slice (some ⟨b, o, none⟩) 1 cc]).run Try.prog w = .ok (.int .i64 1) (w.setRow g (rp x 1 c).toArray) := by
  have h3 : (Try.prog.info? 3).map (·.size) = some 1 := by kernel_rfl
  have := run_copy_row (P := Try.prog) w 24 24 ty 3 g 0 c c ⟨b, o, none⟩ 1 cc (rp x 0 c).toArray 3 [.int .i64 x] Try.underlying24 h3 hg (by show 1 = min 1 c; omega)
    (fun j v hv => by
      match j, hv with
      | 0, hv => rw [Addr.add_lit, Nat.add_zero, hb]; simpa using hv) (by rw [List.size_toArray, length_rp x (Nat.zero_le _)]; simp; omega) (fun v hv => by simp at hv; rw [hv]; rfl)
  rw [this]
  have e := rp_step x (k := 0) (m := 1) (c := c) (by omega)
  rw [Nat.zero_add] at e
  rw [← e]
  simp [goInt]
theorem copy_none {w : World} {g b o cc : Nat} (ty : TypeId) : (Builtin.copy_ #[24, 24] ty #[.slice (some ⟨g, 0, none⟩) 0 0, .slice (some ⟨b, o, none⟩) 1 cc]).run Try.prog w = .ok (.int .i64 0) w := by
  have h3 : (Try.prog.info? 3).map (·.size) = some 1 := by kernel_rfl
  exact run_copy_none (P := Try.prog) w 24 24 ty 3 _ _ _ _ _ _ Try.underlying24 h3 (by show min 1 0 = 0; rfl)
theorem mul153 (w : World) (c : Nat) (hc : c ≤ 1000) : Calls Try.prog 222 #[.int .u64 1, .int .u64 c] w fun e w' => e = .returned (.tuple #[.int .u64 0, .int .u64 c]) ∧ w' = w :=
  (Any.bits_Mul Try.lays212 1 c (by omega) (by omega) w).mono fun e w' ⟨he, hw⟩ => by
    refine ⟨?_, hw⟩
    rw [he, show 1 * c / 18446744073709551616 = 0 by omega, show 1 * c % 18446744073709551616 = c by omega]
    rfl
def Rep (w : World) (x : Int) (c : Nat) (e : Ending) (w' : World) : Prop := ∃ v, e = .returned v ∧ (∃ g, v = .slice (some ⟨g, 0, none⟩) c c ∧ w.heap.size ≤ g ∧ w'.heap[g]? = some (.cells (rp x c c).toArray 3 (0, 0))) ∧ Below w.heap.size w w'
theorem rp_zero (x : Int) (c : Nat) : Array.replicate c (Value.int .i64 0) = (rp x 0 c).toArray := by simp [rp]
theorem drew_setRow (w : World) (g : Nat) (cs : Array Value) : w.drew.setRow g cs = (w.setRow g cs).drew := rfl
set_option maxRecDepth 100000 in
set_option maxHeartbeats 1000000 in
theorem repeat148_any (w : World) (b o cc : Nat) (x : Int) (c : Nat) (hc : c ≤ 1000) (hx : w.cell? ⟨b, o, none⟩ = some (.int .i64 x)) :
    Calls Try.prog 209 #[.slice (some ⟨b, o, none⟩) 1 cc, .int .i64 c] w (Rep w x c) := by
  have hmk := make24r w c (by omega)
  rw [rp_zero x c] at hmk
  have hg0 := heap_alloc_new w (.cells (rp x 0 c).toArray 3)
  have hb0 : Below w.heap.size w (w.alloc (.cells (rp x 0 c).toArray 3)) := (Below.refl _ _).alloc (Nat.le_refl _) _
  have hx0 := (hb0.cell (p := ⟨b, o, none⟩) (World.block_lt_of_cell? w _ hx)).trans hx
  have hc0 : (0 : Int) ≤ (c : Int) := Int.natCast_nonneg _
  have hc1 : (c : Int) ≤ 1000 := by omega
  have HM := Lib.hid (mul153 w c hc)
  have HG := Lib.hid hg0
  have HB := Lib.hid hb0
  clear hg0 hb0 hx
  generalize w.alloc (.cells (rp x 0 c).toArray 3) = W at *
  have d1 : decide ((c : Int) < 0) = false := by simp
  go_enter Try.func209, Try.ntmps209
  go_wp2_with fail
  rcases Nat.eq_zero_or_pos c with h0 | h0
  · subst h0
    have hmk0 : (Instr.makeSlice 24 (.int .i64 0) (.int .i64 0)).run Try.prog w = .ok (.slice (some ⟨w.heap.size, 0, none⟩) 0 0) W := hmk
    have hcn := copy_none (w := W) (g := w.heap.size) (b := b) (o := o) (cc := cc) 3
    go_wp2_with (go_at_call 222; (refine HM.out.mono ?_); rintro e w' ⟨rfl, rfl⟩)
    go_loop [8] (fun s => s = .int .i64 0) (fun _ => 0)
    case atStart => rfl
    case round =>
      subst hrel
      go_wp2_with fail
      go_ret
      exact ⟨_, rfl, ⟨_, rfl, Nat.le_refl _, HG.out⟩, HB.out⟩
  · have hcf := copy_first (cc := cc) HG.out h0 hx0 3
    have hg1 := setRow_heap W w.heap.size _ (rp x 1 c).toArray 3 (0, 0) HG.out
    have hb1 : Below w.heap.size w (W.setRow w.heap.size (rp x 1 c).toArray) := HB.out.trans ⟨rfl, rfl, rfl, by rw [World.setRow]; simp, fun k hk => setRow_other W _ k _ (by omega)⟩
    have hcc1 : (1 : Int) ≤ (c : Int) := by omega
    go_wp2_with (go_at_call 222; (refine HM.out.mono ?_); rintro e w' ⟨rfl, rfl⟩)
    generalize W.setRow w'.heap.size (rp x 1 c).toArray = W1 at *
    go_loopw [8] (fun s wr => ∃ k : Nat, 1 ≤ k ∧ k ≤ c ∧ s = .int .i64 k ∧ wr.heap[w'.heap.size]? = some (.cells (rp x k c).toArray 3 (0, 0)) ∧ Below w'.heap.size w' wr) (fun s _ => c - (intOf s).toNat)
    case atStart => exact ⟨1, Nat.le_refl _, h0, rfl, hg1, hb1⟩
    case round =>
      obtain ⟨k, hk1, hk, rfl, hg, hb⟩ := hrel
      by_cases hlt : k < c
      · have hk0 : (0 : Int) ≤ (k : Int) := Int.natCast_nonneg _
        have hkc : (k : Int) ≤ (c : Int) := by omega
        have hkl : (k : Int) < (c : Int) := by omega
        obtain ⟨m, hm⟩ : ∃ m, m = min k (c - k) := ⟨_, rfl⟩
        have hm1 : 1 ≤ m := by omega
        have hm2 : k + m ≤ c := by omega
        have hcd := copy_double (w := wr.drew) (x := x) (m := m) hg hk hm 3
        have hgn := setRow_heap wr w'.heap.size _ (rp x (k + m) c).toArray 3 (0, 0) hg
        have hbn : Below w'.heap.size w' (wr.setRow w'.heap.size (rp x (k + m) c).toArray) := hb.trans ⟨rfl, rfl, rfl, by rw [World.setRow]; simp, fun k hk => setRow_other wr _ k _ (by omega)⟩
        rw [drew_setRow] at hcd
        have HM' := Lib.hid hm
        have HGN := Lib.hid hgn
        have HBN := Lib.hid hbn
        clear hg hb hm hgn hbn hcf hmk
        go_wp2_with fail
        go_region
        go_wp2_with fail
        go_roundw
        case rel => exact ⟨k + m, by omega, by omega, by go_num, HGN.out, HBN.out.drew⟩
        case measure => simp [intOf]; omega
      · obtain rfl : k = c := by omega
        go_wp2_with fail
        go_ret
        exact ⟨_, rfl, ⟨_, rfl, Nat.le_refl _, hg⟩, hb⟩
end Go.Proofs
namespace Go.Proofs
open Go.RowKit Go.Shelf Go.Proofs.Ct Go.Maps
theorem run_push_at {t ty e : TypeId} {z : Value} {bytes : Nat} (ht : Try.prog.underlying t = some (.slice e)) (hi : ∃ i, Try.prog.info? e = some i ∧ i.zero = some z ∧ i.size = 1 ∧ i.bytes = bytes) (hz : z.cells.size = 1) (hby : bytes ≤ 1000)
    (w : World) (base : Nat) (v : Value) (n : Nat) (xs : List Value) (hown : w.ownsRow base e 1 v n xs) (x : Value) (h1 : x.oneCell' = true) (hn : n ≤ 10000000) (hb : base ≤ w.heap.size) (h : Nat) (hx : w.cell? ⟨h, 0, none⟩ = some x) :
    ∃ A' c' w', (Builtin.append_ #[t, t] ty #[v, .slice (some ⟨h, 0, none⟩) 1 1]).run Try.prog w = .ok (.slice A' (n + 1) c') w' ∧ w'.ownsRow base e 1 (.slice A' (n + 1) c') (n + 1) (xs ++ [x]) ∧
      w.grownBy w' v.ownBlock ∧ ((Value.slice A' (n + 1) c').ownBlock = v.ownBlock ∨ ∃ r, (Value.slice A' (n + 1) c').ownBlock = some r ∧ w.heap.size ≤ r) := by
  obtain ⟨i, hi, hz', hs, hb'⟩ := hi
  have hnews : ∀ j u, [x][j]? = some u → w.cell? ((⟨h, 0, none⟩ : Addr).add j) = some u := fun j u hu => by
    match j, hu with
    | 0, hu => rw [Addr.add_lit, Nat.add_zero, hx]; simpa using hu
  obtain ⟨v', w', hr, hown', hg, -, hw⟩ := run_append_own_at (P := Try.prog) w base t ty e i z 1 bytes ht hi hz' hs hb' hz (by omega) v n xs hown ⟨h, 0, none⟩ 1 1 [x] rfl hnews (fun u hu => by simp at hu; rw [hu]; exact h1) (by unfold maxLen; omega)
    (by have : (n + 1) * bytes ≤ 10000001 * 1000 := Nat.mul_le_mul (by omega) hby
        omega) hb
  obtain ⟨A', c', rfl⟩ := owns_form hown'
  refine ⟨A', c', w', hr, hown', hg, ?_⟩
  rcases hw with hw | hw
  · exact .inl hw
  · exact .inr ⟨_, hw, Nat.le_refl _⟩
structure CoreN (base : Nat) (w : World) (t : Tb) (q : List Nat) (P : List Int) (vr vp vq : Value) (bl cs : Nat → Nat) : Prop where
  out : w.ownsRow base 24 1 vr t.length ((List.range t.length).map fun i => .slice (some ⟨bl i, 0, none⟩) (t.row i).length (cs i))
  row : ∀ i, i < t.length → base ≤ bl i ∧ XsAt w (bl i) (t.row i) ∧ (t.row i).length ≤ cs i ∧ cs i ≤ 9223372036854775807
  inj : ∀ i j, i < t.length → j < t.length → bl i = bl j → i = j
  par : OwnI base w vp P
  que : OwnI base w vq (nats q)
  sepP : ∀ i, i < t.length → vp.ownBlock ≠ some (bl i)
  sepQ : ∀ i, i < t.length → vq.ownBlock ≠ some (bl i)
  pq : ∀ r, vp.ownBlock = some r → vq.ownBlock ≠ some r
theorem CoreM.toN {base : Nat} {w : World} {s : St} {P : List Int} {vr vp vq : Value} {bl cs : Nat → Nat} (h : CoreM base w s P vr vp vq bl cs) : CoreN base w s.t s.q P vr vp vq bl cs := ⟨h.out, h.row, h.inj, h.par, h.que, h.sepP, h.sepQ, h.pq⟩
section
variable {base : Nat} {w w' : World} {t : Tb} {q : List Nat} {P : List Int} {vr vp vq : Value} {bl cs : Nat → Nat}
theorem CoreN.toM {s : St} (h : CoreN base w s.t s.q P vr vp vq bl cs) (hr : Roots P s) : CoreM base w s P vr vp vq bl cs := ⟨h.out, h.row, h.inj, h.par, h.que, h.sepP, h.sepQ, h.pq, hr⟩
theorem CoreN.keep (h : CoreN base w t q P vr vp vq bl cs) (hk : ∀ k C e, base ≤ k → w.heap[k]? = some (.cells C e (0, 0)) → (e = 3 ∨ e = 24) → w'.heap[k]? = w.heap[k]?) : CoreN base w' t q P vr vp vq bl cs := by
  refine ⟨owns_keep h.out fun r hr => ?_, fun i hi => ?_, h.inj, owns_keep h.par fun r hr => ?_, owns_keep h.que fun r hr => ?_, h.sepP, h.sepQ, h.pq⟩
  · obtain ⟨a, C, hC⟩ := owns_block h.out r hr
    exact hk r C 24 a hC (.inr rfl)
  · obtain ⟨a, b, c⟩ := h.row i hi
    obtain ⟨C, hC, -⟩ := id b
    exact ⟨a, b.keep (hk _ C 3 a hC (.inl rfl)), c⟩
  · obtain ⟨a, C, hC⟩ := owns_block h.par r hr
    exact hk r C 3 a hC (.inl rfl)
  · obtain ⟨a, C, hC⟩ := owns_block h.que r hr
    exact hk r C 3 a hC (.inl rfl)
theorem CoreN.below (h : CoreN base w t q P vr vp vq bl cs) (hb : Below w.heap.size w w') : CoreN base w' t q P vr vp vq bl cs :=
  h.keep fun k _C _e _ hC _ => hb.block k (Array.getElem?_eq_some_iff.1 hC).1
theorem CoreN.other (h : CoreN base w t q P vr vp vq bl cs) {b : Nat} {C0 : Array Value} {T : TypeId} (hb : w.heap[b]? = some (.cells C0 T (0, 0))) (h3 : T ≠ 3) (h24 : T ≠ 24) (k : Nat) (v : Value) : CoreN base (w.setCell ⟨b, k, none⟩ v) t q P vr vp vq bl cs :=
  h.keep fun j C e _ hC he => Below.heap_setCell w ⟨b, k, none⟩ v j fun e' => by
    have e'' : j = b := e'
    rw [e'', hb] at hC
    cases hC
    rcases he with he | he <;> simp_all
theorem row_append (t : Tb) (x : List Int) (i : Nat) : Tb.row (t ++ [x]) i = if i < t.length then t.row i else if i = t.length then x else [] := by
  unfold Tb.row
  rw [List.getD_eq_getElem?_getD, List.getElem?_append]
  by_cases h : i < t.length
  · simp [h, List.getD_eq_getElem?_getD]
  · by_cases h2 : i = t.length
    · subst h2; simp
    · rw [if_neg h, if_neg h, if_neg h2, List.getElem?_eq_none (by simp; omega)]
      rfl
theorem CoreN.pushRow (h : CoreN base w t q P vr vp vq bl cs) (hbw : base ≤ w.heap.size) {g h0 m : Nat} {x : List Int} (hg : base ≤ g) (hx : XsAt w g x) (hm : x.length = m) (hm1 : m ≤ 1000) (hn : ∀ i, i < t.length → bl i ≠ g) (hp : vp.ownBlock ≠ some g) (hq : vq.ownBlock ≠ some g) (hc : w.cell? ⟨h0, 0, none⟩ = some (.slice (some ⟨g, 0, none⟩) m m)) (hl : t.length ≤ 1000000) :
    ∃ A c w', (Builtin.append_ #[22, 22] 22 #[vr, .slice (some ⟨h0, 0, none⟩) 1 1]).run Try.prog w = .ok (.slice A (t.length + 1) c) w' ∧ CoreN base w' (t ++ [x]) q P (.slice A (t.length + 1) c) vp vq (fun i => if i = t.length then g else bl i) (fun i => if i = t.length then m else cs i) ∧ w.grownBy w' vr.ownBlock := by
  obtain ⟨A, c, w', hr, ho, hgr, -⟩ := run_push_at (t := 22) (ty := 22) Try.underlying22 info24p rfl (by omega) w base vr t.length _ h.out (.slice (some ⟨g, 0, none⟩) m m) rfl (by omega) hbw h0 hc
  have hne : ∀ (k : Nat) (C : Array Value), w.heap[k]? = some (.cells C 3 (0, 0)) → w'.heap[k]? = w.heap[k]? := fun k C hC => hgr.block k (Array.getElem?_eq_some_iff.1 hC).1 fun e => by
    obtain ⟨-, C', hC'⟩ := owns_block h.out k e.symm
    rw [hC] at hC'
    cases hC'
  have hlen : (t ++ [x]).length = t.length + 1 := by simp
  refine ⟨A, c, w', hr, ⟨?_, fun i hi => ?_, fun i j hi hj e => ?_, owns_keep h.par fun k hk => ?_, owns_keep h.que fun k hk => ?_, fun i hi => ?_, fun i hi => ?_, h.pq⟩, hgr⟩
  · rw [hlen]
    have e : ((List.range (t.length + 1)).map fun i => (.slice (some ⟨(if i = t.length then g else bl i), 0, none⟩) (Tb.row (t ++ [x]) i).length (if i = t.length then m else cs i) : Value)) = (List.range t.length).map (fun i => (.slice (some ⟨bl i, 0, none⟩) (t.row i).length (cs i) : Value)) ++ [.slice (some ⟨g, 0, none⟩) m m] := by
      rw [List.range_succ, List.map_append]
      refine congr (congrArg (fun a b : List Value => a ++ b) ?_) ?_
      · refine List.map_congr_left fun i hi => ?_
        have hi' : i < t.length := List.mem_range.1 hi
        rw [if_neg (by omega), if_neg (by omega), row_append, if_pos hi']
      · rw [List.map_cons, List.map_nil, if_pos rfl, if_pos rfl, row_append, if_neg (Nat.lt_irrefl _), if_pos rfl, hm]
    rw [e]
    exact ho
  · rw [hlen] at hi
    by_cases e : i = t.length
    · subst e
      obtain ⟨C, hC, -⟩ := id hx
      simp only [if_true, row_append, Nat.lt_irrefl, if_false]
      exact ⟨hg, hx.keep (hne _ C hC), by omega, by omega⟩
    · have hi' : i < t.length := by omega
      obtain ⟨a, b, d⟩ := h.row i hi'
      obtain ⟨C, hC, -⟩ := id b
      simp only [if_neg e, row_append, if_pos hi']
      exact ⟨a, b.keep (hne _ C hC), d⟩
  · rw [hlen] at hi hj
    by_cases e1 : i = t.length
    · by_cases e2 : j = t.length
      · omega
      · simp only [if_pos e1, if_neg e2] at e
        exact absurd e.symm (hn j (by omega))
    · by_cases e2 : j = t.length
      · simp only [if_neg e1, if_pos e2] at e
        exact absurd e (hn i (by omega))
      · simp only [if_neg e1, if_neg e2] at e
        exact h.inj i j (by omega) (by omega) e
  · obtain ⟨-, C, hC⟩ := owns_block h.par k hk
    exact hne k C hC
  · obtain ⟨-, C, hC⟩ := owns_block h.que k hk
    exact hne k C hC
  · rw [hlen] at hi
    by_cases e : i = t.length
    · simp only [if_pos e]; exact hp
    · simp only [if_neg e]; exact h.sepP i (by omega)
  · rw [hlen] at hi
    by_cases e : i = t.length
    · simp only [if_pos e]; exact hq
    · simp only [if_neg e]; exact h.sepQ i (by omega)
theorem CoreN.pushP (h : CoreN base w t q P vr vp vq bl cs) (hbw : base ≤ w.heap.size) {h0 : Nat} {z : Int} (hc : w.cell? ⟨h0, 0, none⟩ = some (.int .i64 z)) (hl : P.length ≤ 1000000) :
    ∃ A c w', (Builtin.append_ #[24, 24] 24 #[vp, .slice (some ⟨h0, 0, none⟩) 1 1]).run Try.prog w = .ok (.slice A (P.length + 1) c) w' ∧ CoreN base w' t q (P ++ [z]) vr (.slice A (P.length + 1) c) vq bl cs ∧ w.grownBy w' vp.ownBlock := by
  obtain ⟨A, c, w', hr, ho, hgr, hw⟩ := run_push_at (t := 24) (ty := 24) Try.underlying24 info3p rfl (by omega) w base vp P.length _ h.par (.int .i64 z) rfl (by omega) hbw h0 hc
  have hnewb : ∀ r, (Value.slice A (P.length + 1) c).ownBlock = some r → vp.ownBlock = some r ∨ w.heap.size ≤ r := fun r hr => by
    rcases hw with hw | ⟨r', hr', hge⟩
    · exact .inl (by rw [← hw]; exact hr)
    · rw [hr] at hr'
      cases hr'
      exact .inr hge
  refine ⟨A, c, w', hr, ⟨owns_keep h.out fun k hk => ?_, fun i hi => ?_, h.inj, ?_, owns_keep h.que fun k hk => ?_, fun i hi e => ?_, h.sepQ, fun r hr e => ?_⟩, hgr⟩
  · obtain ⟨-, C, hC⟩ := owns_block h.out k hk
    refine hgr.block k (Array.getElem?_eq_some_iff.1 hC).1 fun e => ?_
    obtain ⟨-, C', hC'⟩ := owns_block h.par k e.symm
    rw [hC] at hC'
    cases hC'
  · obtain ⟨a, b, d⟩ := h.row i hi
    obtain ⟨C, hC, -⟩ := id b
    exact ⟨a, b.keep (hgr.block _ (Array.getElem?_eq_some_iff.1 hC).1 fun e => h.sepP i hi e.symm), d⟩
  · show w'.ownsRow base 3 1 _ (P ++ [z]).length (ints (P ++ [z]))
    rw [ints_app, List.length_append]
    exact ho
  · obtain ⟨-, C, hC⟩ := owns_block h.que k hk
    exact hgr.block k (Array.getElem?_eq_some_iff.1 hC).1 fun e => h.pq k e.symm hk
  · obtain ⟨-, b, -⟩ := h.row i hi
    rcases hnewb _ e with e | e
    · exact h.sepP i hi e
    · exact absurd b.lt (by omega)
  · rcases hnewb _ hr with e' | e'
    · exact h.pq r e' e
    · exact absurd (owns_lt h.que e) (by omega)
end
end Go.Proofs
namespace Go.Proofs
open Go.RowKit Go.Shelf Go.Proofs.Ct Go.Maps
theorem bs24 (x : Int) (w : World) : (Instr.buildSlice 24 1 #[(0, .int .i64 x)]).run Try.prog w = .ok (.slice (some ⟨w.heap.size, 0, none⟩) 1 1) (w.alloc (.cells #[.int .i64 x] 3)) := by kernel_rfl
theorem bs22 (A : Option Addr) (m c : Nat) (w : World) : (Instr.buildSlice 22 1 #[(0, .slice A m c)]).run Try.prog w = .ok (.slice (some ⟨w.heap.size, 0, none⟩) 1 1) (w.alloc (.cells #[.slice A m c] 24)) := by kernel_rfl
theorem call148 (args : Array Value) (w : World) : (callFunc 209 args).run Try.prog w = .ok (.enter 209 args) w := enters_of Try.func209 (by kernel_rfl) rfl args w
section
variable {o : Oper} {a : Act} {w w' : World} {n : Nat} {v : Value}
theorem r_bs24 (x : Operand) (i : Int) (ho : o.op = .buildSlice 24 1 #[(0, x)]) (hx : a.eval x = .int .i64 i) : (execOp a.eval o).run Try.prog w = .ok (.value (.slice (some ⟨w.heap.size, 0, none⟩) 1 1)) (w.alloc (.cells #[.int .i64 i] 3)) := by
  have hb := bs24 i w
  unfold execOp
  simp only [ho, List.map_toArray, List.map_cons, List.map_nil, hx, Sem.run_bind, hb, Result.andThen_ok]
  rfl
theorem r_bs22 (x : Operand) (A : Option Addr) (m c : Nat) (ho : o.op = .buildSlice 22 1 #[(0, x)]) (hx : a.eval x = .slice A m c) : (execOp a.eval o).run Try.prog w = .ok (.value (.slice (some ⟨w.heap.size, 0, none⟩) 1 1)) (w.alloc (.cells #[.slice A m c] 24)) := by
  have hb := bs22 A m c w
  unfold execOp
  simp only [ho, List.map_toArray, List.map_cons, List.map_nil, hx, Sem.run_bind, hb, Result.andThen_ok]
  rfl
theorem r_len (x : Operand) (T : TypeId) (A : Option Addr) (m c : Nat) {E : TypeId} (hT : Try.prog.underlying T = some (.slice E)) (ho : o.op = .call { callee := .builtin .len, args := #[x], argTypes := #[T] }) (hx : a.eval x = .slice A m c) : (execOp a.eval o).run Try.prog w = .ok (.value (.int .i64 (m : Int))) w := by
  unfold execOp
  simp only [ho, resolve, invoke, builtin, Sem.run_bind, Sem.run_pure, Result.andThen_ok, List.map_toArray, List.map_cons, List.map_nil, hx]
  simp [Builtin.len_, run_underlying hT, goInt]
theorem r_max2 (x y : Operand) (i j z : Int) (ho : o.op = .call { callee := .builtin .max, args := #[x, y], argTypes := #[3, 3] }) (hx : a.eval x = .int .i64 i) (hy : a.eval y = .int .i64 j) (hz : z = max i j) : (execOp a.eval o).run Try.prog w = .ok (.value (.int .i64 z)) w := by
  have e : (if j > i then j else i) = z := by rw [hz]; split <;> omega
  unfold execOp
  simp only [ho, resolve, invoke, builtin, Sem.run_bind, Sem.run_pure, Result.andThen_ok, List.map_toArray, List.map_cons, List.map_nil, hx, hy, run_max_int2, e]
end
def Still (N z : Nat) (i : Nat) (w w' : World) : Prop := (∀ k, N ≤ k → k < w.heap.size → w'.heap[k]? = w.heap[k]?) ∧ (i ≠ z → ∀ (k : Nat) (C : Array Value) (e : TypeId), w.heap[k]? = some (.cells C e (0, 0)) → (e = 3 ∨ e = 24) → w'.heap[k]? = w.heap[k]?)
theorem Still.same {N z i : Nat} {w : World} : Still N z i w w := ⟨fun _ _ _ => rfl, fun _ _ _ _ _ _ => rfl⟩
theorem Still.of_below {N z i : Nat} {w w' : World} (h : Below w.heap.size w w') : Still N z i w w' := ⟨fun k _ hk => h.block k hk, fun _ k _C _e hC _ => h.block k (Array.getElem?_eq_some_iff.1 hC).1⟩
theorem Still.grown {N z : Nat} {w w' : World} {row : Option Nat} (h : w.grownBy w' row) (hr : ∀ r, row = some r → r < N) : Still N z z w w' :=
  ⟨fun k hk hl => h.block k hl fun e => by have := hr k e.symm; omega, fun e => absurd rfl e⟩
def RowF (base N m : Nat) (t : Tb) (q : List Nat) (P : List Int) (b : Nat) (vr vp vq : Value) (bl cs : Nat → Nat) : Nat → Value → World → Prop
  | 5, v, w => ∃ g, v = .slice (some ⟨g, 0, none⟩) 1 1 ∧ N ≤ g ∧ w.heap[g]? = some (.cells #[.int .i64 (-1)] 3 (0, 0))
  | 10, v, w => ∃ g, v = .slice (some ⟨g, 0, none⟩) m m ∧ N ≤ g ∧ w.heap[g]? = some (.cells (rp (-1) m m).toArray 3 (0, 0))
  | 11, v, w => ∃ g h, v = .slice (some ⟨h, 0, none⟩) 1 1 ∧ N ≤ g ∧ N ≤ h ∧ w.heap[g]? = some (.cells (rp (-1) m m).toArray 3 (0, 0)) ∧ w.heap[h]? = some (.cells #[.slice (some ⟨g, 0, none⟩) m m] 24 (0, 0))
  | 12, v, w => ∃ A c g, v = .slice A (t.length + 1) c ∧ CoreN base w (t ++ [List.replicate m (-1)]) q P v vp vq (fun i => if i = t.length then g else bl i) (fun i => if i = t.length then m else cs i)
  | i, v, _ => v = ([.pointer (some ⟨b, 0, none⟩), .pointer (some ⟨b, 0, none⟩), .pointer (some ⟨b, 0, none⟩), .pointer (some ⟨b, 2, none⟩), vr, undef, .pointer (some ⟨b, 0, none⟩), .pointer (some ⟨b, 0, none⟩), .pointer (some ⟨b, 0, none⟩), .int .i64 (m : Int), undef, undef, undef, .pointer (some ⟨b, 0, none⟩), .pointer (some ⟨b, 2, none⟩), undef] : List Value).getD i undef
end Go.Proofs
namespace Go.Proofs
open Go.RowKit Go.Shelf Go.Proofs.Ct Go.Maps
structure RowS (base b m lim : Nat) (w : World) (s : St) (P : List Int) (vr vp vq : Value) (bl cs : Nat → Nat) (p q : Bool) (W : World) : Prop where
  box : q = false → BoxP b m lim W s vr vp vq ∧ (p = false → CoreN base W s.t s.q P vr vp vq bl cs)
  bel : Below base w W
  done : q = true → ∃ A c g, BoxP b m lim W s (.slice A (s.t.length + 1) c) vp vq ∧ CoreN base W (s.t ++ [List.replicate m (-1)]) s.q P (.slice A (s.t.length + 1) c) vp vq (fun i => if i = s.t.length then g else bl i) (fun i => if i = s.t.length then m else cs i)
section
variable {base b m lim : Nat} {w W W' : World} {s : St} {P : List Int} {vr vp vq : Value} {bl cs : Nat → Nat} {p q : Bool}
theorem xs_rp {g : Nat} (h : W.heap[g]? = some (.cells (rp (-1) m m).toArray 3 (0, 0))) : XsAt W g (List.replicate m (-1)) := by
  refine ⟨_, h, by rw [List.size_toArray, length_rp _ (Nat.le_refl _), List.length_replicate]; exact Nat.le_refl _, fun k hk => ?_⟩
  rw [List.length_replicate] at hk
  rw [List.getElem?_toArray, rp_get _ (Nat.le_refl _) hk, if_pos hk]
  simp [List.getD_eq_getElem?_getD, hk]
end
def ParF (base N : Nat) (t : Tb) (q : List Nat) (P : List Int) (b : Nat) (vr vp vq : Value) (bl cs : Nat → Nat) : Nat → Value → World → Prop
  | 10, v, w => ∃ h, v = .slice (some ⟨h, 0, none⟩) 1 1 ∧ N ≤ h ∧ w.heap[h]? = some (.cells #[.int .i64 (P.length : Int)] 3 (0, 0))
  | 11, v, w => ∃ A c, v = .slice A (P.length + 1) c ∧ CoreN base w t q (P ++ [(P.length : Int)]) vr v vq bl cs
  | i, v, _ => v = ([.pointer (some ⟨b, 0, none⟩), .pointer (some ⟨b, 0, none⟩), .pointer (some ⟨b, 0, none⟩), .pointer (some ⟨b, 3, none⟩), vp, .pointer (some ⟨b, 0, none⟩), .pointer (some ⟨b, 0, none⟩), .pointer (some ⟨b, 3, none⟩), vp, .int .i64 (P.length : Int), undef, undef, .pointer (some ⟨b, 0, none⟩), .pointer (some ⟨b, 3, none⟩), undef] : List Value).getD i undef
structure ParS (base N b m lim : Nat) (w : World) (s : St) (t : Tb) (P : List Int) (vr vp vq : Value) (bl cs : Nat → Nat) (p q : Bool) (W : World) : Prop where
  box : q = false → BoxP b m lim W s vr vp vq ∧ (p = false → CoreN base W t s.q P vr vp vq bl cs)
  bel : Below base w W
  siz : N ≤ W.heap.size
  done : q = true → ∃ A c, BoxP b m lim W s vr (.slice A (P.length + 1) c) vq ∧ CoreN base W t s.q (P ++ [(P.length : Int)]) vr (.slice A (P.length + 1) c) vq bl cs
section
variable {base N b m lim : Nat} {w W W' : World} {s : St} {t : Tb} {P : List Int} {vr vp vq : Value} {bl cs : Nat → Nat} {p q : Bool}
end
theorem sel1 {W A B : World} {p : Bool} (h : W = bif p then B else A) (hp : p = false) : W = A := by
  subst hp
  exact h
end Go.Proofs
namespace Go.Proofs
open Go.RowKit Go.Shelf Go.Proofs.Ct Go.Maps
section
variable {base : Nat} {w w' : World} {t : Tb} {q : List Nat} {P : List Int} {vr vp vq : Value} {bl cs : Nat → Nat}
end
def ParG (base N : Nat) (t : Tb) (q : List Nat) (P : List Int) (b : Nat) (vr vp vq : Value) (bl cs : Nat → Nat) : Nat → Value → World → Prop
  | 10, v, w => ∃ h, v = .slice (some ⟨h, 0, none⟩) 1 1 ∧ N ≤ h ∧ w.heap[h]? = some (.cells #[.int .i64 (P.length : Int)] 3 (0, 0))
  | 11, v, w => ∃ A c, v = .slice A (P.length + 1) c ∧ CoreN base w t q (P ++ [(P.length : Int)]) vr v vq bl cs
  | i, v, _ => v = ([.pointer (some ⟨b, 0, none⟩), .pointer (some ⟨b, 0, none⟩), .pointer (some ⟨b, 0, none⟩), .pointer (some ⟨b, 1, none⟩), vp, .pointer (some ⟨b, 0, none⟩), .pointer (some ⟨b, 0, none⟩), .pointer (some ⟨b, 0, none⟩), vr, .int .i64 (P.length : Int), undef, undef, .pointer (some ⟨b, 0, none⟩), .pointer (some ⟨b, 1, none⟩), undef] : List Value).getD i undef
structure ParT (base N b lim gx : Nat) (x : List Int) (w : World) (s : St) (t : Tb) (P : List Int) (vr vp vq : Value) (bl cs : Nat → Nat) (f : Bool) (p q : Bool) (W : World) : Prop where
  box : q = false → BoxR b lim W s vr vp vq f ∧ (p = false → CoreN base W t s.q P vr vp vq bl cs)
  bel : Kf base w W
  siz : N ≤ W.heap.size
  row : XsAt W gx x
  done : q = true → ∃ A c, BoxR b lim W s vr (.slice A (P.length + 1) c) vq f ∧ CoreN base W t s.q (P ++ [(P.length : Int)]) vr (.slice A (P.length + 1) c) vq bl cs
section
variable {base N b lim gx : Nat} {x : List Int} {w W W' : World} {s : St} {t : Tb} {P : List Int} {vr vp vq : Value} {bl cs : Nat → Nat} {f : Bool} {p q : Bool}
end
end Go.Proofs
namespace Go.Proofs
open Go.RowKit Go.Shelf Go.Proofs.Ct Go.Maps
def openV : Option (Nat × Nat) → Value
  | none => .tuple #[.int .i64 0, .int .i64 0, .bool false]
  | some (f, c) => .tuple #[.int .i64 (f : Int), .int .i64 (c : Int), .bool true]
end Go.Proofs
namespace Go.Proofs.Ct
end Go.Proofs.Ct
namespace Go.Proofs
open Go.RowKit Go.Shelf Go.Proofs.Ct Go.Maps
def openR (o : Int × Int × Bool × Bool) : Value := .tuple #[.int .i64 o.1, .int .i64 o.2.1, .bool o.2.2.1, .bool o.2.2.2]
end Go.Proofs
namespace Go.Proofs
open Go.RowKit Go.Shelf Go.Proofs.Ct Go.Maps
def rowsIn (b : Nat) (w : World) : Nat := match w.cell? ⟨b, 2, none⟩ with
  | some (.slice _ n _) => n
  | _ => 0
end Go.Proofs
namespace Go.Proofs
open Go.RowKit Go.Shelf Go.Proofs.Ct Go.Maps
namespace Ct
end Ct
def Words (base : Nat) (w : World) (v : Value) (l : List W) : Prop := ∃ w0, w0.heap.size = base ∧ Tab w0 v l ∧ Below base w0 w
end Go.Proofs
namespace Go.Proofs.Ct
def mixTo (f : Int → Int) (x : List Int) (c : Nat) : List Int := (x.take c).map f ++ x.drop c
theorem length_mix (f : Int → Int) (x : List Int) (c : Nat) : (mixTo f x c).length = x.length := by simp [mixTo]; omega
theorem mix_zero (f : Int → Int) (x : List Int) : mixTo f x 0 = x := by simp [mixTo]
theorem mix_all (f : Int → Int) (x : List Int) : mixTo f x x.length = x.map f := by simp [mixTo]
theorem mix_getD (f : Int → Int) (x : List Int) (c : Nat) {i : Nat} (h : i < x.length) : (mixTo f x c).getD i 0 = if i < c then f (x.getD i 0) else x.getD i 0 := by
  unfold mixTo
  rw [List.getD_eq_getElem?_getD, List.getElem?_append]
  by_cases h2 : i < c
  · rw [if_pos (by simp; omega), if_pos h2]
    simp [List.getD_eq_getElem?_getD, h, h2]
  · rw [if_neg (by simp; omega), if_neg h2]
    simp [List.getD_eq_getElem?_getD, Nat.min_eq_left (by omega : c ≤ x.length), show c + (i - c) = i by omega]
theorem mix_set (f : Int → Int) (x : List Int) {c : Nat} (h : c < x.length) : mixTo f x (c + 1) = (mixTo f x c).set c (f (x.getD c 0)) := getD_ext (d := 0) (by simp [length_mix]) fun i hi => by
  rw [length_mix] at hi
  rw [mix_getD f x _ hi, getD_set, length_mix]
  by_cases e : c = i
  · subst e; rw [if_pos (by omega), if_pos ⟨rfl, h⟩]
  · rw [if_neg (fun h' : c = i ∧ c < x.length => e h'.1), mix_getD f x _ hi]
    by_cases h2 : i < c
    · rw [if_pos h2, if_pos (by omega)]
    · rw [if_neg h2, if_neg (by omega)]
end Go.Proofs.Ct
namespace Go.Proofs
open Go.RowKit Go.Shelf Go.Proofs.Ct Go.Maps
end Go.Proofs
namespace Go.Proofs
open Go.RowKit Go.Shelf Go.Proofs.Ct Go.Maps
theorem neq_nil (w : World) : (binOp .neq 20 .nilIface .nilIface).run Try.prog w = .ok (.bool false) w := by kernel_rfl
structure ResC (q : Nat) (w : World) (v : Value) (a b c e : Int) : Prop where
  c0 : w.cell? ⟨q, 0, none⟩ = some v
  c1 : w.cell? ⟨q + 1, 0, none⟩ = some (.int .i64 a)
  c2 : w.cell? ⟨q + 1, 1, none⟩ = some (.int .i64 b)
  c3 : w.cell? ⟨q + 1, 2, none⟩ = some (.int .i64 c)
  c4 : w.cell? ⟨q + 1 + 1, 0, none⟩ = some (.int .i64 e)
  f0 : w.frozen? ⟨q, 0, none⟩ = false
  f1 : w.frozen? ⟨q + 1, 0, none⟩ = false
  f2 : w.frozen? ⟨q + 1, 1, none⟩ = false
  f3 : w.frozen? ⟨q + 1, 2, none⟩ = false
  f4 : w.frozen? ⟨q + 1 + 1, 0, none⟩ = false
theorem ResC.lt {q : Nat} {w : World} {v : Value} {a b c e : Int} (h : ResC q w v a b c e) : q + 1 + 1 < w.heap.size := World.block_lt_of_cell? w _ h.c4
theorem ResC.below {q : Nat} {w w' : World} {v : Value} {a b c e : Int} (h : ResC q w v a b c e) {B : Nat} (hq : q + 1 + 1 < B) (hb : Below B w w') : ResC q w' v a b c e :=
  ⟨(hb.cell (p := ⟨q, 0, none⟩) (by show q < B; omega)).trans h.c0, (hb.cell (p := ⟨q + 1, 0, none⟩) (by show q + 1 < B; omega)).trans h.c1, (hb.cell (p := ⟨q + 1, 1, none⟩) (by show q + 1 < B; omega)).trans h.c2, (hb.cell (p := ⟨q + 1, 2, none⟩) (by show q + 1 < B; omega)).trans h.c3, (hb.cell (p := ⟨q + 1 + 1, 0, none⟩) hq).trans h.c4,
   (hb.frozen (p := ⟨q, 0, none⟩) (by show q < B; omega)).trans h.f0, (hb.frozen (p := ⟨q + 1, 0, none⟩) (by show q + 1 < B; omega)).trans h.f1, (hb.frozen (p := ⟨q + 1, 1, none⟩) (by show q + 1 < B; omega)).trans h.f2, (hb.frozen (p := ⟨q + 1, 2, none⟩) (by show q + 1 < B; omega)).trans h.f3, (hb.frozen (p := ⟨q + 1 + 1, 0, none⟩) hq).trans h.f4⟩
def setR (q : Nat) (w : World) (v : Value) (a b c e : Int) : World := ((((w.setCell ⟨q, 0, none⟩ v).setCell ⟨q + 1, 0, none⟩ (.int .i64 a)).setCell ⟨q + 1, 1, none⟩ (.int .i64 b)).setCell ⟨q + 1, 2, none⟩ (.int .i64 c)).setCell ⟨q + 1 + 1, 0, none⟩ (.int .i64 e)
theorem cell_set {w : World} {a p : Addr} {u : Value} (h : w.cell? p = some u) (v : Value) : (w.setCell a v).cell? p = some (if a = p then v else u) := by
  split
  · rename_i e; subst e; exact World.cell?_setCell_same _ _ _ h
  · rename_i e; rw [World.cell?_setCell_other _ _ _ _ e]; exact h
theorem ResC.set {q : Nat} {w : World} {v : Value} {a b c e : Int} (h : ResC q w v a b c e) (v' : Value) (a' b' c' e' : Int) : ResC q (setR q w v' a' b' c' e') v' a' b' c' e' := by
  obtain ⟨c0, c1, c2, c3, c4, f0, f1, f2, f3, f4⟩ := h
  unfold setR
  refine ⟨(cell_set (cell_set (cell_set (cell_set (cell_set c0 _) _) _) _) _).trans ?_, (cell_set (cell_set (cell_set (cell_set (cell_set c1 _) _) _) _) _).trans ?_, (cell_set (cell_set (cell_set (cell_set (cell_set c2 _) _) _) _) _).trans ?_, (cell_set (cell_set (cell_set (cell_set (cell_set c3 _) _) _) _) _).trans ?_, (cell_set (cell_set (cell_set (cell_set (cell_set c4 _) _) _) _) _).trans ?_, ?_, ?_, ?_, ?_, ?_⟩ <;> simp [f0, f1, f2, f3, f4]
theorem setR_below {B q : Nat} {w w' : World} (h : Below B w w') (hq : B ≤ q) (v : Value) (a b c e : Int) : Below B w (setR q w' v a b c e) :=
  ((((h.setCell (p := ⟨q, 0, none⟩) hq v).setCell (p := ⟨q + 1, 0, none⟩) (by show B ≤ q + 1; omega) _).setCell (p := ⟨q + 1, 1, none⟩) (by show B ≤ q + 1; omega) _).setCell (p := ⟨q + 1, 2, none⟩) (by show B ≤ q + 1; omega) _).setCell (p := ⟨q + 1 + 1, 0, none⟩) (by show B ≤ q + 1 + 1; omega) _
end Go.Proofs
namespace Go.Proofs
open Go.RowKit Go.Shelf Go.Proofs.Ct Go.Maps
def badArgs (g : Nat) (sub : List W) (limit : Int) : Bool := decide (100 < sub.length) || decide (4000 < sumTo sub sub.length) || (sub.any fun w => w.any (letBad g)) || decide (limit < 1) || decide (20000 < limit)
def enumE (g : Int) (rels sub : List W) (limit : Int) : Tb × (Int × Int) × Int :=
  if presE g rels ≠ 0 then ([], (0, 0), presE g rels) else
  if badArgs g.toNat sub limit = true then ([], (0, 0), 2) else
  match runS (2 * g.toNat) limit.toNat rels sub with
  | none => ([], (0, 0), 12)
  | some s => ((stdE g (tabS s) 0).1, ((s.t.length : Int), s.most), 0)
def EnumPost (g : Int) (rels sub : List W) (limit : Int) (w : World) (e : Ending) (w' : World) : Prop :=
  (∃ u, e = .returned (.tuple #[u, .agg #[.int .i64 (enumE g rels sub limit).2.1.1, .int .i64 (enumE g rels sub limit).2.1.2, .int .i64 0], .int .i64 (enumE g rels sub limit).2.2]) ∧ Tab w' u (enumE g rels sub limit).1) ∧ Below w.heap.size w w'
end Go.Proofs
