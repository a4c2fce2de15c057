/- A region that draws its order, whatever it holds: each operation is shown once; A region that draws its order: what its slots hold lies in blocks of their own (footprints); some are written again by the operation that takes them; The walk of RewriteKnown; What the slots of a drawn region hold, each in blocks of its own (for the law of T2); plain; the reference's Images; Words that numbers select: Turn, Letter, WordOf. -/
import Derived.Test.YtcfighimnkfmeaaCjCS5
import Derived.Test.YtcfighimnkfmeaaCjCS8
import Derived.Test.YtcfighimnkfmeaaCjCS1
import Derived.Test.YtcfighimnkfmeaaCjCS7
import Derived.Test.YtcfighimnkfmeaaCjCS6
namespace Go.Proofs
open Go.RowKit Go.Shelf Go.Proofs.Ct Go.Maps
/-- The frame: slots whose operations are not listed are as they were. -/
structure Part (a0 : Act) (dm : Nat → Option Tmp) (N : Nat) (ls : Nat → Bool) (a : Act) : Prop where
  size : a.tmps.size = a0.tmps.size
  defers : a.defers = a0.defers
  out : ∀ t, (∀ i, i < N → ls i = true → dm i ≠ some t) → a.tmps.getD t undef = a0.tmps.getD t undef
theorem Part.put {a0 a : Act} {dm : Nat → Option Tmp} {N i : Nat} {ls : Nat → Bool} (h : Part a0 dm N ls a) (hi : i < N) (v : Value) : Part a0 dm N (fun j => if i = j then true else ls j) (a.put (dm i) v) := by
  refine ⟨?_, ?_, fun t ht => ?_⟩
  · cases hd : dm i with
    | none => exact h.size
    | some t => simpa [Act.put] using h.size
  · cases hd : dm i with
    | none => exact h.defers
    | some t => exact h.defers
  · have h1 : ∀ j, j < N → ls j = true → dm j ≠ some t := fun j hj hl => ht j hj (by simp [hl])
    have h2 := ht i hi (by rw [if_pos rfl])
    rw [← h.out t h1]
    cases hd : dm i with
    | none => rfl
    | some t' => exact put_getD_ne _ _ _ _ (fun e => h2 (by rw [hd, e]))
def slotv (a : Act) : Option Tmp → Value
  | some t => a.tmps.getD t undef
  | none => undef
def lexB (ops : Array Oper) : Bool := (List.range ops.size).all fun i => match ops[i]? with | some o => o.after.toList.all fun e => decide (e.on < i) || !Region.binds .any e | none => true
theorem lex_of {ops : Array Oper} (h : lexB ops = true) : ∀ (i : Nat) (o : Oper), ops[i]? = some o → ∀ e ∈ o.after.toList, Region.binds .any e = true → e.on < i := fun i o ho e he hb => by
  unfold lexB at h
  rw [List.all_eq_true] at h
  have hi : i < ops.size := (Array.getElem?_eq_some_iff.1 ho).1
  have := h i (by simpa using hi)
  rw [ho] at this
  rw [List.all_eq_true] at this
  have h2 := this e he
  rw [hb] at h2
  simpa using h2
section
variable {F : Fence} {n : Nat} {P : Program} {ops : Array Oper} {Q : Exit → Act → World → Prop}
theorem wpIn_region_all {id : Nat} {a0 : Act} {w : World} (hm : P.follows .mixedOrders = true) (N : Nat) (hN : ops.size = N) (dm : Nat → Option Tmp) (hlex : ∀ (i : Nat) (o : Oper), ops[i]? = some o → ∀ e ∈ o.after.toList, Region.binds .any e = true → e.on < i)
    (S : (Nat → Bool) → World → Prop) (Φ : Nat → Value → World → Prop) (G : Nat → World → World → Prop)
    (hdm : ∀ i j t, i < N → j < N → dm i = some t → dm j = some t → i = j)
    (hΦ : ∀ i j v w w', i < N → j < N → i ≠ j → G i w w' → Φ j v w → Φ j v w')
    (hsz : ∀ i t, i < N → dm i = some t → t < a0.tmps.size) (h0 : S (fun _ => false) w.drew)
    (hop : ∀ (ls : Nat → Bool) (i : Nat) (o : Oper) (a : Act) (w : World), i < N → ops[i]? = some o → S ls w → ls i = false → (∀ (j : Nat) (oj : Oper), ops[j]? = some oj → ls j = true → ∀ e ∈ oj.after.toList, Region.binds .any e = true → ls e.on = true) → Part a0 dm N ls a →
      (∀ e ∈ o.after.toList, Region.binds .any e = true → ls e.on = true ∧ Φ e.on (slotv a (dm e.on)) w) →
      wpOpIn F n P ops Q i (fun a' w' => ∃ v, a' = a.put (dm i) v ∧ S (fun j => if i = j then true else ls j) w' ∧ G i w w' ∧ (dm i = none → v = undef) ∧ Φ i v w') a w)
    (hend : ∀ (ls : Nat → Bool) (a : Act) (w : World), (∀ i, i < N → ls i = true) → S ls w → Part a0 dm N ls a → (∀ i, i < N → Φ i (slotv a (dm i)) w) → Q .normal a w) :
    (Code.region id ops true).wpIn F n P Q a0 w := by
  subst hN
  refine wpIn_region_any hm ?_
  refine wpAnyIn_inv (fun listed a w => Closed ops listed ∧ S (fun j => listed.getD j false) w ∧ Part a0 dm ops.size (fun j => listed.getD j false) a ∧ ∀ i, i < ops.size → listed.getD i false = true → Φ i (slotv a (dm i)) w) ?_ ?_ ops.size _ a0 _ (by simp) ?_ ⟨fun i o ho h => ?_, ?_, ⟨rfl, rfl, fun _ _ => rfl⟩, fun i hi h => ?_⟩
  · rintro listed a w i hls ⟨hcl, hS, hP, hsl⟩ hi
    obtain ⟨h1, h2, o, ho, hpre⟩ := ready_mem hi
    rw [getD_true_false (by omega)] at h2
    have hsetD : ∀ j, (listed.setIfInBounds i true).getD j false = if i = j then true else listed.getD j false := fun j => getD_set_listed (by omega)
    have hcl' : Closed ops (listed.setIfInBounds i true) := fun j oj hoj hl e he hb => by
      rw [hsetD] at hl ⊢
      by_cases eij : i = j
      · subst eij
        rw [ho] at hoj; cases hoj
        have := hpre e he hb
        split
        · rfl
        · exact this
      · rw [if_neg eij] at hl
        have := hcl j oj hoj hl e he hb
        split
        · rfl
        · exact this
    have hwp := hop _ i o a w h1 ho hS h2 (fun j oj hoj hl => hcl j oj hoj hl) hP (fun e he hb => ⟨hpre e he hb, hsl e.on (by have := hlex i o ho e he hb; omega) (hpre e he hb)⟩)
    refine wpOpIn_mono (fun a' w' h => ?_) hwp
    obtain ⟨v, rfl, hS', hG, hvn, hv⟩ := h
    rw [show (fun j => if i = j then true else listed.getD j false) = (fun j => (listed.setIfInBounds i true).getD j false) from (funext hsetD).symm] at hS'
    have hP' := hP.put h1 v
    rw [show (fun j => if i = j then true else listed.getD j false) = (fun j => (listed.setIfInBounds i true).getD j false) from (funext hsetD).symm] at hP'
    refine ⟨hcl', hS', hP', fun j hj hl => ?_⟩
    by_cases e : i = j
    · subst e
      have : slotv (a.put (dm i) v) (dm i) = v := by
        cases hdi : dm i with
        | none => rw [hvn hdi]; rfl
        | some t => exact put_getD_same _ _ _ (by rw [hP.size]; exact hsz i t h1 hdi)
      rw [this]
      exact hv
    · rw [hsetD, if_neg e] at hl
      have := hΦ i j _ _ _ h1 hj e hG (hsl j hj hl)
      have hv' : slotv (a.put (dm i) v) (dm j) = slotv a (dm j) := by
        cases hdj : dm j with
        | none => rfl
        | some t =>
          cases hdi : dm i with
          | none => rfl
          | some t' => exact put_getD_ne _ _ _ _ (fun e' => e (hdm i j t h1 hj (by rw [hdi, e']) hdj))
      rw [hv']
      exact this
  · rintro listed a w hls ⟨hcl, hS, hP, hsl⟩ hr
    have hready : ∀ i, i < ops.size → listed.getD i false = true := by
      intro i
      induction i using Nat.strongRecOn with
      | _ i ih =>
        intro hi
        rcases hl : listed.getD i false with _ | _
        · have hmem : i ∈ Region.ready .any ops listed := by
            simp only [Region.ready, List.mem_filter, List.mem_range, Bool.and_eq_true, Bool.not_eq_true']
            refine ⟨hi, by rw [getD_true_false (by omega)]; exact hl, ?_⟩
            rw [Array.getElem?_eq_getElem hi]
            simp only [Option.map_some, Option.getD_some]
            rw [Array.all_eq_true_iff_forall_mem]
            intro e he
            by_cases hb : Region.binds .any e = true
            · have hlt := hlex i _ (Array.getElem?_eq_getElem hi) e (by simpa using he) hb
              simp [ih e.on hlt (by omega)]
            · simp [hb]
          rw [hr] at hmem; cases hmem
        · rfl
    exact hend _ a w hready hS hP (fun i hi => hsl i hi (hready i hi))
  · simp
  · have : (Array.replicate ops.size false).getD i false = false := by
      simp only [Array.getD_eq_getD_getElem?, Array.getElem?_replicate]; split <;> rfl
    rw [this] at h; cases h
  · rw [show (fun j => (Array.replicate ops.size false).getD j false) = (fun _ => false) from funext fun j => by simp only [Array.getD_eq_getD_getElem?, Array.getElem?_replicate]; split <;> rfl]
    exact h0
  · have : (Array.replicate ops.size false).getD i false = false := by
      simp only [Array.getD_eq_getD_getElem?, Array.getElem?_replicate]; split <;> rfl
    rw [this] at h; cases h
end
theorem not_yet {ops : Array Oper} {ls : Nat → Bool} (hcl : ∀ (j : Nat) (oj : Oper), ops[j]? = some oj → ls j = true → ∀ e ∈ oj.after.toList, Region.binds .any e = true → ls e.on = true) (j : Nat) {oj : Oper} (hoj : ops[j]? = some oj) (e : Edge) (he : e ∈ oj.after.toList) (hb : Region.binds .any e = true) (h : ls e.on = false) : ls j = false := by
  cases hj : ls j with
  | false => rfl
  | true => rw [hcl j oj hoj hj e he hb] at h; cases h
theorem dm_out {dm : Nat → Option Tmp} {N t : Nat} {ls : Nat → Bool} (h : (List.range N).all (fun i => !(dm i == some t)) = true) : ∀ i, i < N → ls i = true → dm i ≠ some t := fun i hi _ e => by
  rw [List.all_eq_true] at h
  have := h i (by simpa using hi)
  rw [e] at this
  simp at this
theorem dm_out1 {dm : Nat → Option Tmp} {N t k : Nat} {ls : Nat → Bool} (hk : ls k = false) (h : (List.range N).all (fun i => !(dm i == some t) || i == k) = true) : ∀ i, i < N → ls i = true → dm i ≠ some t := fun i hi hl e => by
  rw [List.all_eq_true] at h
  have := h i (by simpa using hi)
  rw [e] at this
  have h2 : i = k := by simpa using this
  rw [h2, hk] at hl
  cases hl
theorem dm_inj {dm : Nat → Option Tmp} {N : Nat} (h : (List.range N).all (fun i => (List.range N).all fun j => (i == j) || (dm i == none) || !(dm i == dm j)) = true) : ∀ i j t, i < N → j < N → dm i = some t → dm j = some t → i = j := fun i j t hi hj e1 e2 => by
  rw [List.all_eq_true] at h
  have h1 := h i (by simpa using hi)
  rw [List.all_eq_true] at h1
  have h2 := h1 j (by simpa using hj)
  rw [e1, e2] at h2
  simpa using h2
theorem dm_lt {dm : Nat → Option Tmp} {N n : Nat} (h : (List.range N).all (fun i => match dm i with | some t => decide (t < n) | none => true) = true) : ∀ i t, i < N → dm i = some t → t < n := fun i t hi e => by
  rw [List.all_eq_true] at h
  have := h i (by simpa using hi)
  rw [e] at this
  simpa using this
/-- The frame behind the region, written out. -/
theorem Part.frame {a0 a : Act} {dm : Nat → Option Tmp} {N : Nat} {ls : Nat → Bool} (h : Part a0 dm N ls a) (n : Nat) (hn : a0.tmps.size = n) :
    ∃ vs : Nat → Value, (∀ t, vs t = a.tmps.getD t undef) ∧ a = { tmps := ((List.range n).map fun t => if (List.range N).any (fun i => dm i == some t) then vs t else a0.tmps.toList.getD t undef).toArray, defers := a0.defers } := by
  refine ⟨fun t => a.tmps.getD t undef, fun _ => rfl, ?_⟩
  obtain ⟨t, d⟩ := a
  have hd := h.defers
  have hs := h.size
  have ho := h.out
  simp only at hd hs ho
  subst hd
  congr 1
  apply Array.ext'
  apply List.ext_getElem?
  intro i
  rcases Nat.lt_or_ge i n with hi | hi
  · have hit : i < t.size := by omega
    have hg : t.toList[i]? = some (t.getD i undef) := by simp [Array.getD, hit]
    rw [hg]
    simp only [List.getElem?_map, List.getElem?_range hi, Option.map_some]
    congr 1
    by_cases hx : (List.range N).any (fun q => dm q == some i) = true
    · rw [if_pos hx]
    · rw [if_neg hx]
      rw [ho i (fun j hj _ e => hx ?_)]
      · simp [Array.getD_eq_getD_getElem?, List.getD_eq_getElem?_getD]
      · rw [List.any_eq_true]
        exact ⟨j, by simpa using hj, by simpa using e⟩
  · rw [List.getElem?_eq_none (by simpa using (by omega : t.size ≤ i)), List.getElem?_eq_none (by simpa using hi)]
end Go.Proofs
namespace Go.Proofs
open Go.RowKit Go.Shelf Go.Proofs.Ct Go.Maps
def usB (ops : Array Oper) (N : Nat) (us : Nat → Nat → Bool) : Bool := (List.range N).all fun i => (List.range N).all fun j => !us i j || (match ops[i]? with | some o => o.after.toList.any fun e => decide (e.on = j) && Region.binds .any e | none => false)
theorem us_of {ops : Array Oper} {N : Nat} {us : Nat → Nat → Bool} (h : usB ops N us = true) : ∀ i j, i < N → j < N → us i j = true → ∀ o, ops[i]? = some o → ∃ e ∈ o.after.toList, e.on = j ∧ Region.binds .any e = true := fun i j hi hj hu o ho => by
  unfold usB at h
  rw [List.all_eq_true] at h
  have h1 := h i (by simpa using hi)
  rw [List.all_eq_true] at h1
  have h2 := h1 j (by simpa using hj)
  rw [hu, ho] at h2
  simp only [Bool.not_true, Bool.false_or, List.any_eq_true, Bool.and_eq_true, decide_eq_true_eq] at h2
  obtain ⟨e, he, h3, h4⟩ := h2
  exact ⟨e, he, h3, h4⟩
def uqB (N : Nat) (wr : Nat → Bool) (us : Nat → Nat → Bool) : Bool := (List.range N).all fun i => (List.range N).all fun i' => (List.range N).all fun j => !wr j || !us i j || !us i' j || i == i'
theorem uq_of {N : Nat} {wr : Nat → Bool} {us : Nat → Nat → Bool} (h : uqB N wr us = true) : ∀ i i' j, i < N → i' < N → j < N → wr j = true → us i j = true → us i' j = true → i = i' := fun i i' j hi hi' hj h1 h2 h3 => by
  unfold uqB at h
  rw [List.all_eq_true] at h
  have k1 := h i (by simpa using hi)
  rw [List.all_eq_true] at k1
  have k2 := k1 i' (by simpa using hi')
  rw [List.all_eq_true] at k2
  have k3 := k2 j (by simpa using hj)
  rw [h1, h2, h3] at k3
  simpa using k3
/-- what an operation may do: it turns blocks of the slots that it takes alone, and makes new ones -/
structure Step (N : Nat) (wr : Nat → Bool) (us : Nat → Nat → Bool) (O : Nat → Nat → Prop) (i : Nat) (O' : Nat → Prop) (w w' : World) : Prop where
  size : w.heap.size ≤ w'.heap.size
  keep : ∀ k, k < w.heap.size → (∀ j, j < N → us i j = true → wr j = true → ¬ O j k) → w'.heap[k]? = w.heap[k]?
  foot : ∀ k, O' k → k < w'.heap.size ∧ (w.heap.size ≤ k ∨ ∃ j, j < N ∧ us i j = true ∧ O j k ∧ (wr i = true → wr j = true))
section
variable {F : Fence} {n : Nat} {P : Program} {ops : Array Oper} {Q : Exit → Act → World → Prop}
theorem wpIn_region_own {id : Nat} {a0 : Act} {w : World} (hm : P.follows .mixedOrders = true) (N : Nat) (hN : ops.size = N) (dm : Nat → Option Tmp) (hlex : ∀ (i : Nat) (o : Oper), ops[i]? = some o → ∀ e ∈ o.after.toList, Region.binds .any e = true → e.on < i)
    (base : Nat) (wr : Nat → Bool) (us : Nat → Nat → Bool) (S : World → Prop) (Φ : Nat → Value → (Nat → Prop) → World → Prop)
    (hus : usB ops N us = true) (huq : uqB N wr us = true)
    (hdm : ∀ i j t, i < N → j < N → dm i = some t → dm j = some t → i = j)
    (hst : ∀ (j : Nat) (v : Value) (O : Nat → Prop) (W W' : World), j < N → (∀ k, O k → k < W.heap.size) → (∀ k, O k → W'.heap[k]? = W.heap[k]?) → W.heap.size ≤ W'.heap.size → S W → S W' → Φ j v O W → Φ j v O W')
    (hsz : ∀ i t, i < N → dm i = some t → t < a0.tmps.size) (hbase : base ≤ w.heap.size) (h0 : S w.drew)
    (hop : ∀ (O : Nat → Nat → Prop) (ls : Nat → Bool) (i : Nat) (o : Oper) (a : Act) (w : World), i < N → ops[i]? = some o → S w → base ≤ w.heap.size → ls i = false → Part a0 dm N ls a →
      (∀ j, j < N → us i j = true → Φ j (slotv a (dm j)) (O j) w ∧ ∀ k, O j k → base ≤ k ∧ k < w.heap.size) →
      (∀ j j' k, j < N → j' < N → us i j = true → us i j' = true → j ≠ j' → wr j = true → O j k → ¬ O j' k) →
      wpOpIn F n P ops Q i (fun a' w' => ∃ v O', a' = a.put (dm i) v ∧ S w' ∧ (dm i = none → v = undef) ∧ Step N wr us O i O' w w' ∧ Φ i v O' w') a w)
    (hend : ∀ (O : Nat → Nat → Prop) (ls : Nat → Bool) (a : Act) (w : World), (∀ i, i < N → ls i = true) → S w → base ≤ w.heap.size → Part a0 dm N ls a → (∀ j, j < N → (wr j = false ∨ ∀ i, i < N → us i j = false) → Φ j (slotv a (dm j)) (O j) w ∧ ∀ k, O j k → base ≤ k ∧ k < w.heap.size) → Q .normal a w) :
    (Code.region id ops true).wpIn F n P Q a0 w := by
  subst hN
  have hus' := us_of hus
  have huq' := uq_of huq
  refine wpIn_region_any hm ?_
  let lv : (Nat → Bool) → Nat → Prop := fun ls j => ls j = true ∧ ∀ i, i < ops.size → us i j = true → wr j = true → ls i = false
  refine wpAnyIn_inv (fun listed a w => Closed ops listed ∧ S w ∧ base ≤ w.heap.size ∧ Part a0 dm ops.size (fun j => listed.getD j false) a ∧ ∃ O : Nat → Nat → Prop,
    (∀ j k, j < ops.size → listed.getD j false = true → O j k → base ≤ k ∧ k < w.heap.size) ∧
    (∀ j j' k, j < ops.size → j' < ops.size → lv (fun j => listed.getD j false) j → lv (fun j => listed.getD j false) j' → j ≠ j' → wr j = true → O j k → ¬ O j' k) ∧
    (∀ j, j < ops.size → lv (fun j => listed.getD j false) j → Φ j (slotv a (dm j)) (O j) w)) ?_ ?_ ops.size _ a0 _ (by simp) ?_ ⟨fun i o ho h => ?_, h0, hbase, ⟨rfl, rfl, fun _ _ => rfl⟩, fun _ _ => False, fun j k _ _ h => h.elim, fun j j' k _ _ _ _ _ _ h => h.elim, fun j hj h => ?_⟩
  · rintro listed a w i hls ⟨hcl, hS, hbw, hP, O, hOb, hOd, hsl⟩ hi
    obtain ⟨h1, h2, o, ho, hpre⟩ := ready_mem hi
    rw [getD_true_false (by omega)] at h2
    have hsetD : ∀ j, (listed.setIfInBounds i true).getD j false = if i = j then true else listed.getD j false := fun j => getD_set_listed (by omega)
    have hcl' : Closed ops (listed.setIfInBounds i true) := fun j oj hoj hl e he hb => by
      rw [hsetD] at hl ⊢
      by_cases eij : i = j
      · subst eij
        rw [ho] at hoj; cases hoj
        have := hpre e he hb
        split
        · rfl
        · exact this
      · rw [if_neg eij] at hl
        have := hcl j oj hoj hl e he hb
        split
        · rfl
        · exact this
    -- what i takes is live
    have hlive : ∀ j, j < ops.size → us i j = true → lv (fun j => listed.getD j false) j := fun j hj hu => by
      obtain ⟨e, he, rfl, hb⟩ := hus' i j h1 hj hu o ho
      refine ⟨hpre e he hb, fun i' hi' hu' hw => ?_⟩
      have := huq' i i' e.on h1 hi' hj hw hu hu'
      subst this
      exact h2
    have hwp := hop O _ i o a w h1 ho hS hbw h2 hP (fun j hj hu => ⟨hsl j hj (hlive j hj hu), fun k hk => hOb j k hj (hlive j hj hu).1 hk⟩) (fun j j' k hj hj' hu hu' hne hw => hOd j j' k hj hj' (hlive j hj hu) (hlive j' hj' hu') hne hw)
    refine wpOpIn_mono (fun a' w' h => ?_) hwp
    obtain ⟨v, O', rfl, hS', hvn, hstep, hv⟩ := h
    have hP' := hP.put h1 v
    rw [show (fun j => if i = j then true else listed.getD j false) = (fun j => (listed.setIfInBounds i true).getD j false) from (funext hsetD).symm] at hP'
    -- what is live behind the step was live, and i has not taken it
    have hback : ∀ j, j < ops.size → i ≠ j → lv (fun j => (listed.setIfInBounds i true).getD j false) j → lv (fun j => listed.getD j false) j ∧ (us i j = true → wr j = false) := fun j hj hne hl => by
      obtain ⟨l1, l2⟩ := hl
      have l1' : (listed.setIfInBounds i true).getD j false = true := l1
      rw [hsetD, if_neg hne] at l1'
      refine ⟨⟨l1', fun i' hi' hu hw => ?_⟩, fun hu => ?_⟩
      · have h3 : (listed.setIfInBounds i true).getD i' false = false := l2 i' hi' hu hw
        rw [hsetD] at h3
        split at h3
        · cases h3
        · exact h3
      · rcases hw : wr j with _ | _
        · rfl
        · have h3 : (listed.setIfInBounds i true).getD i false = false := l2 i h1 hu hw
          rw [hsetD, if_pos rfl] at h3
          cases h3
    refine ⟨hcl', hS', Nat.le_trans hbw hstep.size, hP', fun j => if i = j then O' else O j, fun j k hj hl hk => ?_, fun j j' k hj hj' hl hl' hne hw hk hk' => ?_, fun j hj hl => ?_⟩
    · replace hk : (if i = j then O' else O j) k := hk
      by_cases e : i = j
      · rw [if_pos e] at hk
        obtain ⟨h3, h4⟩ := hstep.foot k hk
        refine ⟨?_, h3⟩
        rcases h4 with h4 | ⟨j0, h5, h6, h7, -⟩
        · omega
        · exact (hOb j0 k h5 (hlive j0 h5 h6).1 h7).1
      · rw [if_neg e] at hk
        rw [hsetD, if_neg e] at hl
        have := hOb j k hj hl hk
        exact ⟨this.1, Nat.lt_of_lt_of_le this.2 hstep.size⟩
    · replace hk : (if i = j then O' else O j) k := hk
      replace hk' : (if i = j' then O' else O j') k := hk'
      by_cases e : i = j
      · subst e
        rw [if_pos rfl] at hk
        rw [if_neg hne] at hk'
        obtain ⟨b1, b2⟩ := hback j' hj' hne hl'
        obtain ⟨h3, h4⟩ := hstep.foot k hk
        rcases h4 with h4 | ⟨j0, h5, h6, h7, h8⟩
        · have := (hOb j' k hj' b1.1 hk').2
          omega
        · have hw0 := h8 hw
          by_cases e0 : j0 = j'
          · subst e0
            rw [b2 h6] at hw0; cases hw0
          · exact hOd j0 j' k h5 hj' (hlive j0 h5 h6) b1 e0 hw0 h7 hk'
      · rw [if_neg e] at hk
        obtain ⟨b1, b2⟩ := hback j hj e hl
        by_cases e' : i = j'
        · subst e'
          rw [if_pos rfl] at hk'
          obtain ⟨h3, h4⟩ := hstep.foot k hk'
          rcases h4 with h4 | ⟨j0, h5, h6, h7, -⟩
          · have := (hOb j k hj b1.1 hk).2
            omega
          · by_cases e0 : j = j0
            · subst e0
              rw [b2 h6] at hw; cases hw
            · exact hOd j j0 k hj h5 b1 (hlive j0 h5 h6) e0 hw hk h7
        · rw [if_neg e'] at hk'
          exact hOd j j' k hj hj' b1 (hback j' hj' e' hl').1 hne hw hk hk'
    · show Φ j (slotv (a.put (dm i) v) (dm j)) (if i = j then O' else O j) w'
      by_cases e : i = j
      · subst e
        rw [if_pos rfl]
        have : slotv (a.put (dm i) v) (dm i) = v := by
          cases hdi : dm i with
          | none => rw [hvn hdi]; rfl
          | some t => exact put_getD_same _ _ _ (by rw [hP.size]; exact hsz i t h1 hdi)
        rw [this]
        exact hv
      · rw [if_neg e]
        obtain ⟨b1, b2⟩ := hback j hj e hl
        have hv' : slotv (a.put (dm i) v) (dm j) = slotv a (dm j) := by
          cases hdj : dm j with
          | none => rfl
          | some t =>
            cases hdi : dm i with
            | none => rfl
            | some t' => exact put_getD_ne _ _ _ _ (fun e' => e (hdm i j t h1 hj (by rw [hdi, e']) hdj))
        rw [hv']
        refine hst j _ _ w w' hj (fun k hk => (hOb j k hj b1.1 hk).2) (fun k hk => hstep.keep k (hOb j k hj b1.1 hk).2 fun j0 h5 h6 h7 h8 => ?_) hstep.size hS hS' (hsl j hj b1)
        by_cases e0 : j0 = j
        · subst e0
          rw [b2 h6] at h7; cases h7
        · exact hOd j0 j k h5 hj (hlive j0 h5 h6) b1 e0 h7 h8 hk
  · rintro listed a w hls ⟨hcl, hS, hbw, hP, O, hOb, hOd, hsl⟩ hr
    have hready : ∀ i, i < ops.size → listed.getD i false = true := by
      intro i
      induction i using Nat.strongRecOn with
      | _ i ih =>
        intro hi
        rcases hl : listed.getD i false with _ | _
        · have hmem : i ∈ Region.ready .any ops listed := by
            simp only [Region.ready, List.mem_filter, List.mem_range, Bool.and_eq_true, Bool.not_eq_true']
            refine ⟨hi, by rw [getD_true_false (by omega)]; exact hl, ?_⟩
            rw [Array.getElem?_eq_getElem hi]
            simp only [Option.map_some, Option.getD_some]
            rw [Array.all_eq_true_iff_forall_mem]
            intro e he
            by_cases hb : Region.binds .any e = true
            · have hlt := hlex i _ (Array.getElem?_eq_getElem hi) e (by simpa using he) hb
              simp [ih e.on hlt (by omega)]
            · simp [hb]
          rw [hr] at hmem; cases hmem
        · rfl
    refine hend O _ a w hready hS hbw hP (fun j hj hd => ⟨hsl j hj ⟨hready j hj, fun i hi hu hw => ?_⟩, fun k hk => hOb j k hj (hready j hj) hk⟩)
    rcases hd with hd | hd
    · rw [hd] at hw; cases hw
    · rw [hd i hi] at hu; cases hu
  · simp
  · have : (Array.replicate ops.size false).getD i false = false := by
      simp only [Array.getD_eq_getD_getElem?, Array.getElem?_replicate]; split <;> rfl
    rw [this] at h; cases h
  · have h1 := h.1
    have : (Array.replicate ops.size false).getD j false = false := by
      simp only [Array.getD_eq_getD_getElem?, Array.getElem?_replicate]; split <;> rfl
    have h2 : (Array.replicate ops.size false).getD j false = true := h1
    rw [this] at h2; cases h2
end
end Go.Proofs
namespace Go.Proofs
open Go.RowKit Go.Shelf Go.Proofs.Ct Go.Maps
def smallT : List (List Int) := [[1, 1], [2, 2, 2], [1, 2, 1, 2]]
theorem ints_blk {w : World} {b : Nat} {xs : List Int} (h : w.heap[b]? = some (.cells (ints xs).toArray 3 (0, 0))) (hf : Fits xs) {n : Nat} (hn : xs.length = n) (hm : n ≤ 1000) : IntsAt w (.slice (some ⟨b, 0, none⟩) n n) xs := by
  subst hn
  have hl : xs.length ≤ 9223372036854775807 := by omega
  refine ⟨⟨_, xs.length, xs.length, rfl, by simp [ints], Nat.le_refl _, by simpa [maxLen] using hl, fun _ => ⟨b, 0, rfl, fun j u hu => ?_⟩⟩, hf⟩
  rw [cell_of_row _ _ _ _ _ _ h, Nat.zero_add]
  simpa using hu
/-- rows in a block -/
theorem tab_blk {w : World} {b : Nat} {us : List Value} {xs : List (List Int)} {e : TypeId} (hb : w.heap[b]? = some (.cells us.toArray e (0, 0))) {n : Nat} (hn : us.length = n) (hl : us.length = xs.length) (hm : us.length ≤ 1000) (h : ∀ i, i < xs.length → IntsAt w (us.getD i undef) (xs.getD i [])) :
    Tab w (.slice (some ⟨b, 0, none⟩) n n) xs := by
  subst hn
  have hl9 : us.length ≤ 9223372036854775807 := by omega
  refine ⟨us, ⟨_, us.length, us.length, rfl, rfl, Nat.le_refl _, by simpa [maxLen] using hl9, fun _ => ⟨b, 0, rfl, fun j u hu => ?_⟩⟩, hl, fun i hi => ?_⟩
  · rw [cell_of_row _ _ _ _ _ _ hb, Nat.zero_add]
    simpa using hu
  · have hi' : i < us.length := by omega
    refine ⟨us.getD i undef, ?_, h i hi⟩
    simp [List.getD_eq_getElem?_getD, hi']
theorem fits_lit {xs : List Int} (h : (xs.all fun x => decide (-1000 ≤ x) && decide (x ≤ 1000)) = true) : Fits xs := fun x hx => by
  have := List.all_eq_true.1 h x hx
  simp at this
  omega
theorem build40s (g : Int) (A : Option Addr) (n c : Nat) (w : World) : (Instr.build 40 #[(0, .int .i64 g), (1, .slice A n c)]).run Try.prog w = .ok (.agg #[.int .i64 g, .slice A n c]) w := by kernel_rfl
section
variable {o : Oper} {a : Act} {w w' : World} {n : Nat} {v : Value}
theorem r_build40s (x y : Operand) (g : Int) (A : Option Addr) (m c : Nat) (ho : o.op = .build 40 #[(0, x), (1, y)]) (hx : a.eval x = .int .i64 g) (hy : a.eval y = .slice A m c) : (execOp a.eval o).run Try.prog w = .ok (.value (.agg #[.int .i64 g, .slice A m c])) w := by
  have hb := build40s g A m c w
  unfold execOp
  simp only [ho, List.map_toArray, List.map_cons, List.map_nil, hx, hy, Sem.run_bind, hb, Result.andThen_ok]
  rfl
end
theorem results_40 {fn : Func} {p : Tmp} (h : fn.results = #[.cell p 40]) (tmps : Array Value) (w : World) (g : Nat) (cs : Array Value)
    (hp : tmps.getD p undef = .pointer (some ⟨g, 0, none⟩)) (hg : w.heap[g]? = some (.cells cs 40 (0, 0))) (hs : cs.size = 2) :
    (results fn tmps).run Try.prog w = .ok (.agg cs) w := by
  have hp' : tmps[p]?.getD undef = .pointer (some ⟨g, 0, none⟩) := by simpa using hp
  simp [results, h, hp', asAddr, run_loadVar_row w g 40 40 cs (0, 0) _ hg Try.underlying40 rfl (by rw [hs]; exact info40s)]
def PresAt (g : Int) (l : List (List Int)) (w : World) (e : Ending) (w' : World) : Prop := (∃ A c, e = .returned (.agg #[.int .i64 g, .slice A l.length c]) ∧ Tab w' (.slice A l.length c) l) ∧ Below w.heap.size w w'
/-- what a slot of the drawn region holds -/
inductive SP where
  | eq (v : Value) | ints (l : List Int) | tab (l : List (List Int)) | pres (g : Int) (l : List (List Int)) | any
def SP.holds : SP → Value → World → Prop
  | .eq u, v, _ => v = u
  | .ints l, v, w => IntsAt w v l
  | .tab l, v, w => ∃ A c, v = .slice A l.length c ∧ Tab w v l
  | .pres g l, v, w => ∃ A c, v = .agg #[.int .i64 g, .slice A l.length c] ∧ Tab w (.slice A l.length c) l
  | .any, _, _ => True
theorem SP.keep {s : SP} {v : Value} {w w' : World} (h : Below w.heap.size w w') : s.holds v w → s.holds v w' := by
  cases s with
  | eq u => exact id
  | ints l => exact fun k => k.below h
  | tab l => exact fun ⟨A, c, e, k⟩ => ⟨A, c, e, kept_tab.below k h⟩
  | pres g l => exact fun ⟨A, c, e, k⟩ => ⟨A, c, e, kept_tab.below k h⟩
  | any => exact id
section
variable {o : Oper} {a : Act} {w w' : World} {n : Nat} {v : Value}
end
end Go.Proofs
namespace Go.Proofs
open Go.RowKit Go.Shelf Go.Proofs.Ct Go.Maps
/-- u reads as the rows ys by the blocks of F -/
def TabS (F : Nat → Prop) (w : World) (u : Value) (ys : List (List Int)) : Prop := ∃ vs, (∀ w', Ag F w w' → Sl w' u vs) ∧ RowsF F w vs ys
/-- reading alone -/
def RdT (F : Nat → Prop) (w : World) (u : Value) (ys : List (List Int)) : Prop := ∀ w', Ag F w w' → Tab w' u ys
section
variable {F G : Nat → Prop} {w w' : World} {u : Value} {ys : List (List Int)}
theorem TabS.keep (h : TabS F w u ys) (ha : Ag F w w') : TabS F w' u ys := by
  obtain ⟨vs, h1, h2⟩ := h
  exact ⟨vs, fun w'' h' => h1 w'' (ha.trans h'), h2.keep ha fun _ h => h⟩
theorem TabS.mono (h : TabS F w u ys) (hg : ∀ k, F k → G k) : TabS G w u ys := by
  obtain ⟨vs, h1, h2⟩ := h
  exact ⟨vs, fun w' h' => h1 w' fun k hk => h' k (hg k hk), h2.keep (Ag.refl _ _) hg⟩
theorem TabS.tab (h : TabS F w u ys) : Tab w u ys := by
  obtain ⟨vs, h1, h2⟩ := h
  exact ⟨vs, h1 w (Ag.refl _ _), h2.1, fun i hi => let ⟨x, hx, hr⟩ := h2.2 i hi; ⟨x, hx, hr.at_⟩⟩
theorem TabS.rd (h : TabS F w u ys) : RdT F w u ys := fun _ ha => (h.keep ha).tab
theorem RdT.keep (h : RdT F w u ys) (ha : Ag F w w') : RdT F w' u ys := fun w'' h' => h w'' (ha.trans h')
theorem RdT.mono (h : RdT F w u ys) (hg : ∀ k, F k → G k) : RdT G w u ys := fun w' h' => h w' fun k hk => h' k (hg k hk)
theorem RdT.tab (h : RdT F w u ys) : Tab w u ys := h w (Ag.refl _ _)
theorem TabS.of_own {e : TypeId} {base : Nat} (h : OwnT e base F w u ys) (hv : ∀ r, u.ownBlock = some r → G r) (hg : ∀ k, F k → G k) : TabS G w u ys := by
  obtain ⟨vs, h1, h2⟩ := h
  exact ⟨vs, fun w' ha => sl_of_owns (owns_keep h1 fun r hr => ha r (hv r hr)), h2.keep (Ag.refl _ _) hg⟩
end
/-- what a slot holds -/
inductive FP where
  | any | eq (v : Value) | ints (l : List Int) | tab (l : List (List Int)) | rd (l : List (List Int)) | own (l : List Int) | ownT (l : List (List Int)) | box (e : TypeId) (cs : Array Value) | enum (t : List (List Int)) (a b c : Int)
def Fb (base : Nat) (O : Nat → Prop) : Nat → Prop := fun k => k < base ∨ O k
def FP.holds (base : Nat) : FP → Value → (Nat → Prop) → World → Prop
  | .any, _, _, _ => True
  | .eq u, v, _, _ => v = u
  | .ints l, v, O, w => ∃ A c, v = .slice A l.length c ∧ IntsF (Fb base O) w (.slice A l.length c) l
  | .tab l, v, O, w => ∃ A c, v = .slice A l.length c ∧ TabS (Fb base O) w (.slice A l.length c) l
  | .rd l, v, O, w => ∃ A c, v = .slice A l.length c ∧ RdT (Fb base O) w (.slice A l.length c) l
  | .own l, v, O, w => ∃ A c, v = .slice A l.length c ∧ OwnI base w (.slice A l.length c) l ∧ ∀ r, (Value.slice A l.length c).ownBlock = some r → O r
  | .ownT l, v, O, w => ∃ A c F, v = .slice A l.length c ∧ OwnT 25 base F w (.slice A l.length c) l ∧ (∀ k, F k → Fb base O k ∧ k < w.heap.size ∧ (Value.slice A l.length c).ownBlock ≠ some k) ∧ ∀ r, (Value.slice A l.length c).ownBlock = some r → O r
  | .box e cs, v, O, w => ∃ q, v = .pointer (some ⟨q, 0, none⟩) ∧ O q ∧ w.heap[q]? = some (.cells cs e (0, 0))
  | .enum t a b c, v, O, w => ∃ A n, v = .tuple #[.slice A t.length n, .agg #[.int .i64 a, .int .i64 b, .int .i64 0], .int .i64 c] ∧ RdT (Fb base O) w (.slice A t.length n) t
section
variable {base : Nat} {O O' : Nat → Prop} {W0 w w' : World} {v : Value}
theorem ag_fb (_hb : W0.heap.size = base) (h1 : Below base W0 w) (h2 : Below base W0 w') (h : ∀ k, O k → w'.heap[k]? = w.heap[k]?) : Ag (Fb base O) w w' := fun k hk => by
  rcases hk with hk | hk
  · rw [h1.block k (by omega), h2.block k (by omega)]
  · exact h k hk
theorem FP.keep {p : FP} (hb : W0.heap.size = base) (h1 : Below base W0 w) (h2 : Below base W0 w') (hs : w.heap.size ≤ w'.heap.size) (h : ∀ k, O k → w'.heap[k]? = w.heap[k]?) : p.holds base v O w → p.holds base v O w' := by
  have ha := ag_fb hb h1 h2 h
  cases p with
  | any => exact id
  | eq u => exact id
  | ints l => exact fun ⟨A, c, e, k⟩ => ⟨A, c, e, k.keep ha⟩
  | tab l => exact fun ⟨A, c, e, k⟩ => ⟨A, c, e, k.keep ha⟩
  | rd l => exact fun ⟨A, c, e, k⟩ => ⟨A, c, e, k.keep ha⟩
  | own l => exact fun ⟨A, c, e, k, k2⟩ => ⟨A, c, e, owns_keep k fun r hr => h r (k2 r hr), k2⟩
  | ownT l => exact fun ⟨A, c, F, e, k, k2, k3⟩ => ⟨A, c, F, e, k.keep (fun r hr => h r (k3 r hr)) (fun x hx => ha x (k2 x hx).1) (fun _ h => h), fun x hx => ⟨(k2 x hx).1, Nat.lt_of_lt_of_le (k2 x hx).2.1 hs, (k2 x hx).2.2⟩, k3⟩
  | box e cs => exact fun ⟨q, e, k, k2⟩ => ⟨q, e, k, (h q k).trans k2⟩
  | enum t a b c => exact fun ⟨A, n, e, k⟩ => ⟨A, n, e, k.keep ha⟩
theorem FP.mono {p : FP} (hO : ∀ k, O k → O' k) : p.holds base v O w → p.holds base v O' w := by
  have hF : ∀ k, Fb base O k → Fb base O' k := fun k hk => hk.imp id (hO k)
  cases p with
  | any => exact id
  | eq u => exact id
  | ints l => exact fun ⟨A, c, e, k⟩ => ⟨A, c, e, k.mono hF⟩
  | tab l => exact fun ⟨A, c, e, k⟩ => ⟨A, c, e, k.mono hF⟩
  | rd l => exact fun ⟨A, c, e, k⟩ => ⟨A, c, e, k.mono hF⟩
  | own l => exact fun ⟨A, c, e, k, k2⟩ => ⟨A, c, e, k, fun r hr => hO r (k2 r hr)⟩
  | ownT l => exact fun ⟨A, c, F, e, k, k2, k3⟩ => ⟨A, c, F, e, k, fun x hx => ⟨hF x (k2 x hx).1, (k2 x hx).2⟩, fun r hr => hO r (k3 r hr)⟩
  | box e cs => exact fun ⟨q, e, k, k2⟩ => ⟨q, e, hO q k, k2⟩
  | enum t a b c => exact fun ⟨A, n, e, k⟩ => ⟨A, n, e, k.mono hF⟩
end
/-- all that an operation may claim as its own -/
def Mx (N : Nat) (wr : Nat → Bool) (us : Nat → Nat → Bool) (O : Nat → Nat → Prop) (i : Nat) (w w' : World) : Nat → Prop := fun k => k < w'.heap.size ∧ (w.heap.size ≤ k ∨ ∃ j, j < N ∧ us i j = true ∧ O j k ∧ (wr i = true → wr j = true))
section
variable {N : Nat} {wr : Nat → Bool} {us : Nat → Nat → Bool} {O : Nat → Nat → Prop} {i : Nat} {w w' : World}
theorem Step.below (h : Below w.heap.size w w') : Step N wr us O i (Mx N wr us O i w w') w w' := ⟨h.size, fun k hk _ => h.block k hk, fun _ h => h⟩
theorem Step.same : Step N wr us O i (Mx N wr us O i w w) w w := Step.below (Below.refl _ _)
theorem Step.grown {row : Option Nat} (h : w.grownBy w' row) (hr : ∀ r, row = some r → ∃ j, j < N ∧ us i j = true ∧ wr j = true ∧ O j r) : Step N wr us O i (Mx N wr us O i w w') w w' := ⟨h.size, fun k hk hn => h.block k hk fun e => by
  obtain ⟨j, h1, h2, h3, h4⟩ := hr k e.symm
  exact hn j h1 h2 h3 h4, fun _ h => h⟩
theorem Mx.fresh {k : Nat} (h1 : w.heap.size ≤ k) (h2 : k < w'.heap.size) : Mx N wr us O i w w' k := ⟨h2, .inl h1⟩
theorem Mx.of {j k : Nat} (hj : j < N) (hu : us i j = true) (hw : wr i = true → wr j = true) (hO : O j k) (hk : k < w'.heap.size) : Mx N wr us O i w w' k := ⟨hk, .inr ⟨j, hj, hu, hO, hw⟩⟩
end
theorem grown_below {w w' W0 : World} {base : Nat} {row : Option Nat} (hb : W0.heap.size = base) (h0 : Below base W0 w) (h : w.grownBy w' row) (hr : ∀ r, row = some r → base ≤ r) : Below base W0 w' :=
  ⟨h.os.trans h0.os, h.tape.trans h0.tape, h.output.trans h0.output, Nat.le_trans h0.size h.size, fun k hk => (h.block k (by have := h0.size; omega) fun e => by have := hr k e.symm; omega).trans (h0.block k hk)⟩
section
variable {o : Oper} {a : Act} {w w' : World} {n : Nat} {v : Value}
theorem bs25_0 (w : World) : (Instr.buildSlice 25 0 #[]).run Try.prog w = .ok (.slice (some ⟨w.heap.size, 0, none⟩) 0 0) (w.alloc (.cells #[] 3)) := by kernel_rfl
theorem bs31_1 (A : Option Addr) (n c : Nat) (w : World) : (Instr.buildSlice 31 1 #[(0, .slice A n c)]).run Try.prog w = .ok (.slice (some ⟨w.heap.size, 0, none⟩) 1 1) (w.alloc (.cells #[.slice A n c] 25)) := by kernel_rfl
theorem r_bs25_0 (ho : o.op = .buildSlice 25 0 #[]) : (execOp a.eval o).run Try.prog w = .ok (.value (.slice (some ⟨w.heap.size, 0, none⟩) 0 0)) (w.alloc (.cells #[] 3)) := by
  have hb := bs25_0 w
  unfold execOp
  simp only [ho, List.map_toArray, List.map_nil, Sem.run_bind, hb, Result.andThen_ok]
  rfl
theorem r_bs31_1 (x : Operand) (A : Option Addr) (m c : Nat) (ho : o.op = .buildSlice 31 1 #[(0, x)]) (hx : a.eval x = .slice A m c) : (execOp a.eval o).run Try.prog w = .ok (.value (.slice (some ⟨w.heap.size, 0, none⟩) 1 1)) (w.alloc (.cells #[.slice A m c] 25)) := by
  have hb := bs31_1 A m c w
  unfold execOp
  simp only [ho, List.map_toArray, List.map_cons, List.map_nil, hx, Sem.run_bind, hb, Result.andThen_ok]
  rfl
theorem own_new (w : World) : OwnI w.heap.size (w.alloc (.cells #[] 3)) (.slice (some ⟨w.heap.size, 0, none⟩) 0 0) [] := by
  refine ⟨rfl, .inr ⟨w.heap.size, 0, #[], rfl, Nat.le_refl _, heap_alloc_new w _, Nat.le_refl _, by simp [maxLen], rfl, by simp [ints]⟩⟩
end
theorem FP.app_ints {t ty : TypeId} (ht : Try.prog.underlying t = some (.slice 3)) {w : World} {base : Nat} {O1 : Nat → Prop} {v : Value} {xs : List Int} (h : (FP.own xs).holds base v O1 w) {u : Value} {ys : List Int} (hu : IntsAt w u ys)
    (hx : xs.length ≤ 1000000) (hy : ys.length ≤ 1000000) (hb : base ≤ w.heap.size) :
    ∃ A' c' w', (Builtin.append_ #[t, t] ty #[v, u]).run Try.prog w = .ok (.slice A' (xs ++ ys).length c') w' ∧ w.grownBy w' v.ownBlock ∧ (∀ r, v.ownBlock = some r → O1 r ∧ base ≤ r) ∧
      ∀ O' : Nat → Prop, (∀ k, O1 k → k < w.heap.size → O' k) → (∀ k, w.heap.size ≤ k → k < w'.heap.size → O' k) → (FP.own (xs ++ ys)).holds base (.slice A' (xs ++ ys).length c') O' w' := by
  obtain ⟨A, c, rfl, o1, r1⟩ := h
  obtain ⟨A', c', w', hr, ho, hg, hw⟩ := Go.Proofs.app_ints ty t ht w base _ xs o1 u ys hu hx hy hb
  refine ⟨A', c', w', hr, hg, fun r hr => ⟨r1 r hr, (owns_block o1 r hr).1⟩, fun O' p1 p3 => ⟨A', c', rfl, ho, fun r hr => ?_⟩⟩
  rcases hw with hw | ⟨q, hw, hwq⟩
  · rw [hw] at hr
    exact p1 r (r1 r hr) (owns_lt o1 hr)
  · have e : q = r := by rw [hw] at hr; exact Option.some.inj hr
    subst e
    exact p3 q hwq (owns_lt ho hw)
end Go.Proofs
namespace Go.Proofs
open Go.RowKit Go.Shelf Go.Proofs.Ct Go.Maps
theorem take_snoc {α : Type} {d : α} {l : List α} {k : Nat} (h : k < l.length) : l.take (k + 1) = l.take k ++ [l.getD k d] := by
  rw [List.take_add_one, List.getD_eq_getElem?_getD, List.getElem?_eq_getElem h]; rfl
set_option maxRecDepth 100000 in
set_option maxHeartbeats 1000000 in
theorem plain52_any (w : World) (v : Value) (l : List W) (ht : Tab w v l) (hl : l.length ≤ 1000000) : Calls Try.prog 52 #[v] w fun e w' => (∃ u, e = .returned u ∧ Tab w' u l) ∧ Below w.heap.size w w' := by
  obtain ⟨A, c, rfl, h1, h2, h3⟩ := ht.open_
  have HL := Lib.hid h3
  have h0 : OwnT 24 w.heap.size (fun k => k < w.heap.size) w (.slice none 0 0) [] := ⟨[], World.ownsRow_nil _ _ _ _, RowsF.nil _ _⟩
  have H0 := Lib.hid h0
  clear ht h3 h0
  go_enter Try.func52, Try.ntmps52
  go_wp2_with fail
  go_loopw [3, 4] (fun so i wr => ∃ k : Nat, i = .int .i64 k ∧ k ≤ l.length ∧ ∃ A c, so = .slice A k c ∧ Hid (OwnT 24 w.heap.size (fun k => k < w.heap.size) wr so (l.take k)) ∧ Hid (Below w.heap.size w wr)) (fun _ i _ => l.length - (intOf i).toNat)
  case atStart => exact ⟨0, rfl, by omega, none, 0, rfl, H0, Lib.hid (Below.refl _ _)⟩
  case round =>
    clear H0
    obtain ⟨k, rfl, hk, A2, c2, rfl, HO, HB⟩ := hrel
    have hk0 : (0 : Int) ≤ (k : Int) := Int.natCast_nonneg _
    by_cases hlt : k < l.length
    · have hlt' : (k : Int) < (l.length : Int) := by omega
      obtain ⟨b, o, rfl, hcc⟩ := HL.out (by omega)
      obtain ⟨u, hu0, hI⟩ := hcc k hlt
      have hu := (HB.out.cell (p := ⟨b, o + k, none⟩) (World.block_lt_of_cell? w _ hu0)).trans hu0
      have hI2 : IntsAt w u (l.getD k []) := hI
      obtain ⟨Ar, cr, rfl, -, -, -⟩ := hI2.open_
      have hF := (IntsF.of_at hI2).keep (Ag.below HB.out fun _ h => h)
      have hFs : ∀ j, j < w.heap.size → j < (wr.heap.size) ∧ (Value.slice A2 k c2).ownBlock ≠ some j := fun j hj => ⟨Nat.lt_of_lt_of_le hj HB.out.size, fun e => by
        obtain ⟨h1, -⟩ := OwnT.block HO.out j e
        omega⟩
      obtain ⟨A', c', w', hr, ho, hg, hw⟩ := push_row (ty := 23) Try.underlying23 info24p wr w.heap.size (fun k => k < w.heap.size) _ (l.take k) HO.out Ar (l.getD k []).length cr (l.getD k []) hF hFs (by rw [List.length_take]; omega) HB.out.size
      have hlk : (l.take k).length = k := by rw [List.length_take]; omega
      rw [hlk] at hr ho
      rw [← take_snoc hlt] at ho
      have HR := Lib.hid hr
      have HO' := Lib.hid ho
      have HB' : Hid (Below w.heap.size w w') := Lib.hid (HB.out.grown hg HB.out.size fun r hr => (OwnT.block HO.out r hr).1)
      clear hr ho hw hcc hI hI2 hF hFs hu0 hg
      generalize (l.getD k []).length = n at *
      go_wp2_with ((with_reducible refine wpList_sel 17 ?_); refine wpList_val rfl (r_app (.tmp 11) (.tmp 16) 23 rfl rfl rfl HR.out) ?_)
      go_roundw
      case rel => exact ⟨k + 1, by go_num, by omega, _, _, rfl, HO', HB'⟩
      case measure => simp [intOf]; omega
    · obtain rfl : k = l.length := by omega
      have ho := HO.out
      rw [List.take_of_length_le (Nat.le_refl _)] at ho
      have HT := Lib.hid ho.tab
      clear ho
      go_wp2_with fail
      go_ret
      exact ⟨⟨_, rfl, HT.out⟩, HB.out⟩
/-- the images of a generator at the first k cosets; of the first generators -/
def colTo (t : Tb) (c k : Nat) : List Int := (List.range k).map fun r => t.at r (2 * c)
theorem colTo_succ (t : Tb) (c k : Nat) : colTo t c (k + 1) = colTo t c k ++ [t.at k (2 * c)] := by simp [colTo, List.range_succ]
theorem length_colTo (t : Tb) (c k : Nat) : (colTo t c k).length = k := by simp [colTo]
def imgTo (t : Tb) (m : Nat) : Tb := (List.range m).map fun c => colTo t c t.length
def imgE (g : Int) (t : Tb) : Tb × Int :=
  if (check g t).1 ≠ 0 then ([], (check g t).1) else
  if complete t = false then ([], 13) else (imgTo t g.toNat, 0)
def ImgPost (g : Int) (t : Tb) (w : World) (e : Ending) (w' : World) : Prop := (∃ u, e = .returned (.tuple #[u, .int .i64 (imgE g t).2]) ∧ Tab w' u (imgE g t).1) ∧ Below w.heap.size w w'
theorem fits_colTo {g : Nat} {t : Tb} (hg : TGood g t) {c k : Nat} (hc : c < g) (hk : k ≤ t.length) : Fits (colTo t c k) := fun x hx => by
  obtain ⟨r, hr, rfl⟩ := List.mem_map.1 hx
  have := hg.bd r (by have := List.mem_range.1 hr; omega) (2 * c) (by omega)
  have := hg.n2
  omega
end Go.Proofs
namespace Go.Proofs
open Go.RowKit Go.Shelf Go.Proofs.Ct Go.Maps
theorem turn59_any (w : World) (x : Int) (n : Nat) (hn : 1 ≤ n ∧ n ≤ 1000000) : Calls Try.prog 59 #[.int .i64 x, .int .i64 (n : Int)] w fun e w' => e = .returned (.int .i64 (x % (n : Int))) ∧ w' = w := by
  have hk0 : (0 : Int) < (n : Int) := by omega
  have hk1 : (n : Int) ≤ 1000000 := by omega
  have h3 : x.tmod n < n := Int.tmod_lt_of_pos _ hk0
  have h4 : -(n : Int) < x.tmod n := by
    have := Int.lt_tmod_of_pos x hk0
    omega
  have h5 : (x.tmod n + n).tmod n = x % n := by
    rw [Int.tmod_eq_emod_of_nonneg (by omega), Int.add_emod_right, Int.tmod_eq_emod]
    split <;> simp
  have H5 := Lib.hid h5
  clear h5
  generalize hm : x.tmod (n : Int) = m at *
  have hne : (n : Int) ≠ 0 := by omega
  have h6 : (m + n).tmod n < n := Int.tmod_lt_of_pos _ hk0
  have h7 : 0 ≤ (m + n).tmod (n : Int) := by rw [H5.out]; exact Int.emod_nonneg _ hne
  generalize hz : (m + (n : Int)).tmod (n : Int) = z at *
  go_enter Try.func59, Try.ntmps59
  go_wp2_with fail
  go_ret
  exact ⟨ret_int (by first | exact H5.out | (rw [← H5.out])), (by first | trivial | rfl)⟩
theorem letter61_any (w : World) (c : Nat) (hc : c ≤ 1000000) : Calls Try.prog 61 #[.int .i64 (c : Int)] w fun e w' => e = .returned (.int .i64 (letter c)) ∧ w' = w := by
  have h0 : (0 : Int) ≤ (c : Int) := Int.natCast_nonneg _
  have h1 : (c : Int) ≤ 1000000 := by omega
  have hm : (c : Int).tmod 2 = (c : Int) % 2 := Int.tmod_eq_emod_of_nonneg h0
  have hd : (c : Int).tdiv 2 = (c : Int) / 2 := Int.tdiv_eq_ediv_of_nonneg h0
  have HL : Hid (letter c = if (c : Int) % 2 = 0 then (c : Int) / 2 + 1 else -((c : Int) / 2 + 1)) := Lib.hid (by
    unfold letter
    split <;> split <;> omega)
  generalize hy : (c : Int) / 2 = y at *
  have hy0 : 0 ≤ y := by omega
  have hy1 : y ≤ 1000000 := by omega
  by_cases h : (c : Int) % 2 = 0
  · have d1 : ((c : Int) % 2 == 0) = true := by simpa using h
    rw [if_pos h] at HL
    generalize (c : Int) % 2 = m at *
    generalize letter c = l at *
    clear h
    go_enter Try.func61, Try.ntmps61
    go_wp2_with fail
    go_ret
    exact ⟨ret_int (by rw [HL.out]), (by first | trivial | rfl)⟩
  · have d1 : ((c : Int) % 2 == 0) = false := by simpa using h
    rw [if_neg h] at HL
    generalize (c : Int) % 2 = m at *
    generalize letter c = l at *
    clear h
    go_enter Try.func61, Try.ntmps61
    go_wp2_with fail
    go_ret
    exact ⟨ret_int (by rw [HL.out]), (by first | trivial | rfl)⟩
/-- the word that numbers select -/
def wordOf (g : Nat) (l : List Int) : List Int := l.map fun x => letter (x % ((2 * g : Nat) : Int)).toNat
theorem length_wordOf (g : Nat) (l : List Int) : (wordOf g l).length = l.length := by simp [wordOf]
theorem wordOf_take {g : Nat} {l : List Int} {k : Nat} (h : k < l.length) : wordOf g (l.take (k + 1)) = wordOf g (l.take k) ++ [letter (l.getD k 0 % ((2 * g : Nat) : Int)).toNat] := by
  rw [take_snoc (d := 0) h]
  simp [wordOf]
def WordPost (x : List Int) (w : World) (e : Ending) (w' : World) : Prop := ∃ A c, e = .returned (.slice A x.length c) ∧ OwnI w.heap.size w' (.slice A x.length c) x ∧ Below w.heap.size w w'
set_option maxRecDepth 100000 in
set_option maxHeartbeats 1000000 in
theorem wordOf39_any (w : World) (v : Value) (l : List Int) (g : Nat) (h : IntsAt w v l) (hg : 1 ≤ g ∧ g ≤ 1000) (hl : l.length ≤ 1000000) : Calls Try.prog 39 #[v, .int .i64 (g : Int)] w (WordPost (wordOf g l) w) := by
  obtain ⟨A, c, rfl, h1, h2, h3⟩ := h.open_
  have HL := Lib.hid h3
  have HF := Lib.hid h.2
  have h0 : OwnI w.heap.size w (.slice none 0 0) [] := World.ownsRow_nil _ _ _ _
  have H0 := Lib.hid h0
  have hg0 : (0 : Int) ≤ (g : Int) := Int.natCast_nonneg _
  have hg1 : (g : Int) ≤ 1000 := by omega
  have hgg : 2 * (g : Int) = ((2 * g : Nat) : Int) := by omega
  have HGG := Lib.hid hgg
  clear h h3 h0 hgg
  unfold WordPost
  go_enter Try.func39, Try.ntmps39
  go_wp2_with fail
  go_loopw [5, 6] (fun so i wr => ∃ k : Nat, i = .int .i64 k ∧ k ≤ l.length ∧ ∃ A c, so = .slice A k c ∧ Hid (OwnI w.heap.size wr so (wordOf g (l.take k))) ∧ Hid (Below w.heap.size w wr)) (fun _ i _ => l.length - (intOf i).toNat)
  case atStart => exact ⟨0, rfl, by omega, none, 0, rfl, H0, Lib.hid (Below.refl _ _)⟩
  case round =>
    clear H0
    obtain ⟨k, rfl, hk, A2, c2, rfl, HO, HB⟩ := hrel
    have hk0 : (0 : Int) ≤ (k : Int) := Int.natCast_nonneg _
    by_cases hlt : k < l.length
    · have hlt' : (k : Int) < (l.length : Int) := by omega
      obtain ⟨b, o, rfl, hcc⟩ := HL.out (by omega)
      have hu0 := hcc k hlt
      have hu := (HB.out.cell (p := ⟨b, o + k, none⟩) (World.block_lt_of_cell? w _ hu0)).trans hu0
      have HW := Lib.hid (wordOf_take (g := g) hlt)
      have hm0 := Int.emod_nonneg (l.getD k 0) (show ((2 * g : Nat) : Int) ≠ 0 by omega)
      have hm1 := Int.emod_lt_of_pos (l.getD k 0) (show (0 : Int) < ((2 * g : Nat) : Int) by omega)
      have HT : Hid (∀ W, Calls Try.prog 59 #[.int .i64 (l.getD k 0), .int .i64 (2 * (g : Int))] W fun e w' => e = .returned (.int .i64 ((l.getD k 0 % ((2 * g : Nat) : Int)).toNat : Nat)) ∧ w' = W) := Lib.hid fun W => by
        rw [HGG.out, Int.toNat_of_nonneg hm0]
        exact turn59_any W _ (2 * g) (by omega)
      have HLT : Hid (∀ W, Calls Try.prog 61 #[.int .i64 ((l.getD k 0 % ((2 * g : Nat) : Int)).toNat : Nat)] W fun e w' => e = .returned (.int .i64 (letter (l.getD k 0 % ((2 * g : Nat) : Int)).toNat)) ∧ w' = W) := Lib.hid fun W => letter61_any W _ (by omega)
      have hol : (wordOf g (l.take k)).length = k := by rw [length_wordOf, List.length_take]; omega
      obtain ⟨A', c', w', hr, ho, hgr, hw⟩ := push_int 25 25 Try.underlying25 wr w.heap.size _ _ HO.out (letter (l.getD k 0 % ((2 * g : Nat) : Int)).toNat) (by omega) HB.out.size
      rw [hol] at hr ho
      rw [← HW.out] at ho
      have HR := Lib.hid hr
      have HO' := Lib.hid ho
      have HB' : Hid (Below w.heap.size w w') := Lib.hid (HB.out.grown hgr HB.out.size fun r hr => (owns_block HO.out r hr).1)
      clear hr ho hw hcc hu0 hgr HW hol hm0 hm1
      generalize (l.getD k 0 % ((2 * g : Nat) : Int)).toNat = n at *
      generalize letter n = z at *
      generalize l.getD k 0 = x at *
      go_wp2_with (first
        | (go_at_call 59; (refine (HT.out _).mono ?_); rintro e w1 ⟨rfl, rfl⟩)
        | (go_at_call 61; (refine (HLT.out _).mono ?_); rintro e w1 ⟨rfl, rfl⟩)
        | ((with_reducible refine wpList_sel 23 ?_); refine wpList_val rfl (r_app (.tmp 13) (.tmp 22) 25 rfl rfl rfl HR.out) ?_))
      go_roundw
      case rel => exact ⟨k + 1, by go_num, by omega, _, _, rfl, HO', HB'⟩
      case measure => simp [intOf]; omega
    · obtain rfl : k = l.length := by omega
      have ho := HO.out
      rw [List.take_of_length_le (Nat.le_refl _)] at ho
      have HE : Hid (∃ A c, Ending.returned (.slice A2 l.length c2) = .returned (.slice A (wordOf g l).length c) ∧ OwnI w.heap.size wr (.slice A (wordOf g l).length c) (wordOf g l) ∧ Below w.heap.size w wr) := Lib.hid ⟨A2, c2, by rw [length_wordOf], by rw [length_wordOf]; exact ho, HB.out⟩
      clear ho
      go_wp2_with fail
      go_ret
      exact HE.out
end Go.Proofs
