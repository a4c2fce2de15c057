/- A region that draws its order, by an invariant on its slots: each operation is shown once, whatever order the region is run in. Fenced walk; One operation at a time: what it runs to. For the slot obligations of a region that draws its order (Fence.wide); What the iterator's walk leans on; Plain: the relations. The contracts of cayleyref17.Same and equal. -/
import Derived.OrdersIn
import Derived.TacticsIn
import Derived.Deep.RegionHeld
import Derived.Test.YtnhoiompdjabbaaA3
import Derived.RangeFuncFrom
import Derived.RangeFuncCalls
import Derived.Shelf.Abstract
import Derived.OwnWalkIn
import Derived.TacticsInMore
import Derived.LoopNIn
import Derived.LoopIn
import Derived.Test.YtnhoiompdjabbaaA2
namespace Go.Proofs

section
variable {F : Fence} {n : Nat} {P : Program} {ops : Array Oper} {Q : Exit → Act → World → Prop} {md : Region.Mode}

theorem count_set : ∀ (l : List Bool) (i : Nat), l[i]? = some false → (l.set i true).count false + 1 = l.count false
  | [], i, h => by simp at h
  | b :: l, 0, h => by
    simp at h
    subst h
    simp
  | b :: l, i + 1, h => by
    have ih := count_set l i (by simpa using h)
    simp only [List.set_cons_succ, List.count_cons]
    omega

theorem ready_mem {listed : Array Bool} {i : Nat} (h : i ∈ Region.ready md ops listed) : i < ops.size ∧ listed.getD i true = false ∧
    ∃ o, ops[i]? = some o ∧ ∀ e ∈ o.after.toList, Region.binds md e = true → listed.getD e.on false = true := by
  simp only [Region.ready, List.mem_filter, List.mem_range, Bool.and_eq_true, Bool.not_eq_true'] at h
  obtain ⟨h1, h2, h3⟩ := h
  refine ⟨h1, h2, ops[i], Array.getElem?_eq_getElem h1, fun e he hb => ?_⟩
  rw [Array.getElem?_eq_getElem h1] at h3
  simp only [Option.map_some, Option.getD_some] at h3
  rw [Array.all_eq_true_iff_forall_mem] at h3
  have := h3 e (by simpa using he)
  simpa [hb] using this

theorem wpAnyIn_inv (I : Array Bool → Act → World → Prop)
    (hstep : ∀ listed a w i, listed.size = ops.size → I listed a w → i ∈ Region.ready md ops listed → wpOpIn F n P ops Q i (I (listed.setIfInBounds i true)) a w)
    (hend : ∀ listed a w, listed.size = ops.size → I listed a w → Region.ready md ops listed = [] → Q .normal a w) :
    ∀ (fuel : Nat) (listed : Array Bool) (a : Act) (w : World), listed.size = ops.size → listed.toList.count false ≤ fuel → I listed a w → wpAnyIn F n P md ops Q fuel listed a w := by
  intro fuel
  induction fuel with
  | zero =>
    intro listed a w hs hc hI
    have hr : Region.ready md ops listed = [] := by
      rw [List.eq_nil_iff_forall_not_mem]
      intro i hi
      obtain ⟨h1, h2, _⟩ := ready_mem hi
      have hlt : i < listed.size := by omega
      have hf : listed[i] = false := by simpa [Array.getD, hlt] using h2
      have : false ∈ listed.toList := by rw [← hf]; simp
      have := List.count_pos_iff.2 this
      omega
    exact ⟨hr, hend _ _ _ hs hI hr⟩
  | succ fuel ih =>
    intro listed a w hs hc hI
    refine ⟨hend _ _ _ hs hI, fun i hi => ?_⟩
    obtain ⟨h1, h2, _⟩ := ready_mem hi
    have hlt : i < listed.size := by omega
    have hf : listed.toList[i]? = some false := by
      have : listed[i] = false := by simpa [Array.getD, hlt] using h2
      simp [hlt, this]
    have hcs := count_set listed.toList i hf
    refine wpOpIn_mono (fun a' w' h' => ih _ a' w' (by simpa using hs) ?_ h') (hstep listed a w i hs hI hi)
    rw [Array.toList_setIfInBounds]
    omega

/-- The frame but for the slots lo, lo+1, .., lo+N-1. -/
structure Same (a0 : Act) (lo N : Nat) (a : Act) : Prop where
  size : a.tmps.size = a0.tmps.size
  defers : a.defers = a0.defers
  out : ∀ t, t < lo ∨ lo + N ≤ t → a.tmps.getD t undef = a0.tmps.getD t undef

theorem Same.refl (a0 : Act) (lo N : Nat) : Same a0 lo N a0 := ⟨rfl, rfl, fun _ _ => rfl⟩
theorem Same.put {a0 a : Act} {lo N i : Nat} (h : Same a0 lo N a) (hi : i < N) (v : Value) : Same a0 lo N (a.put (some (lo + i)) v) :=
  ⟨by simpa [Act.put] using h.size, h.defers, fun t ht => by
    rw [← h.out t ht]
    have hne : lo + i ≠ t := by omega
    simp only [Act.put, Array.getD_eq_getD_getElem?]
    rw [Array.getElem?_setIfInBounds_ne hne]⟩

theorem put_getD_same (a : Act) (t : Nat) (v : Value) (h : t < a.tmps.size) : (a.put (some t) v).tmps.getD t undef = v := by
  simp [Act.put, Array.getD_eq_getD_getElem?, h]
theorem put_getD_ne (a : Act) (t u : Nat) (v : Value) (h : t ≠ u) : (a.put (some t) v).tmps.getD u undef = a.tmps.getD u undef := by
  simp only [Act.put, Array.getD_eq_getD_getElem?]
  rw [Array.getElem?_setIfInBounds_ne h]

/-- EACH OPERATION WRITES ITS OWN SLOT lo + i, WITH A VALUE OF WHICH Φ i HOLDS; what holds of a slot goes on holding (hΦ); S: what the operations need of the world. -/
theorem wpIn_region_slots {id : Nat} {a0 : Act} {w : World} (hm : P.follows .mixedOrders = true) (lo : Nat) (S : World → Prop) (Φ : Nat → Value → World → Prop) (G : World → World → Prop)
    (hΦ : ∀ i v w w', G w w' → Φ i v w → Φ i v w')
    (hsz : lo + ops.size ≤ a0.tmps.size) (h0 : S w.drew)
    (hop : ∀ (i : Nat) (o : Oper) (a : Act) (w : World), i < ops.size → ops[i]? = some o → S w → Same a0 lo ops.size a → (∀ e ∈ o.after.toList, Region.binds .any e = true → Φ e.on (a.tmps.getD (lo + e.on) undef) w) →
      o.guard = none ∧ o.dst = some (lo + i) ∧ o.wpIn F n P a w (fun a' w' => ∃ v, a' = a.put (some (lo + i)) v ∧ S w' ∧ G w w' ∧ Φ i v w') Q)
    (hend : ∀ (a : Act) (w : World), S w → Same a0 lo ops.size a → (∀ i, i < ops.size → Φ i (a.tmps.getD (lo + i) undef) w) → Q .normal a w)
    (hall : ∀ listed : Array Bool, listed.size = ops.size → Region.ready .any ops listed = [] → ∀ i, i < ops.size → listed.getD i false = true) :
    (Code.region id ops true).wpIn F n P Q a0 w := by
  refine wpIn_region_any hm ?_
  refine wpAnyIn_inv (fun listed a w => S w ∧ Same a0 lo ops.size a ∧ ∀ i, i < ops.size → listed.getD i false = true → Φ i (a.tmps.getD (lo + i) undef) w) ?_ ?_ ops.size _ a0 _ (by simp) ?_ ⟨h0, Same.refl _ _ _, fun i hi h => ?_⟩
  · rintro listed a w i hls ⟨hS, hsame, hsl⟩ hi
    obtain ⟨h1, h2, o, ho, hpre⟩ := ready_mem hi
    obtain ⟨hg, hd, hwp⟩ := hop i o a w h1 ho hS hsame (fun e he hb => by
      have hl := hpre e he hb
      have hlt : e.on < ops.size := by
        rcases Nat.lt_or_ge e.on ops.size with h | h
        · exact h
        · have : listed.getD e.on false = false := by
            simp [Array.getD_eq_getD_getElem?, Array.getElem?_eq_none (show listed.size ≤ e.on by omega)]
          rw [this] at hl; cases hl
      exact hsl e.on hlt hl)
    unfold wpOpIn
    rw [ho]
    simp only [Region.wanted, hg, if_true]
    refine Oper.wpIn_mono (fun a' w' h => ?_) hwp
    obtain ⟨v, rfl, hS', hG, hv⟩ := h
    refine ⟨hS', hsame.put h1 v, fun j hj hl => ?_⟩
    by_cases e : i = j
    · subst e
      rw [put_getD_same _ _ _ (by rw [hsame.size]; omega)]
      exact hv
    · rw [put_getD_ne _ _ _ _ (by omega)]
      refine hΦ j _ _ _ hG (hsl j hj ?_)
      simpa [Array.getD_eq_getD_getElem?, Array.getElem?_setIfInBounds_ne e] using hl
  · rintro listed a w hls ⟨hS, hsame, hsl⟩ hr
    exact hend a w hS hsame (fun i hi => hsl i hi (hall listed hls hr i hi))
  · simp
  · simp [Array.getD_eq_getD_getElem?, hi] at h

/-- Every edge leads back; each of the first N operations has a successor up to N; operation N+1 waits for N. -/
structure Tailed (ops : Array Oper) (N : Nat) : Prop where
  size : ops.size = N + 2
  lex : ∀ (i : Nat) (o : Oper), ops[i]? = some o → ∀ e ∈ o.after.toList, e.on < i
  succ : ∀ i, i < N → ∃ (j : Nat) (o : Oper), i < j ∧ j ≤ N ∧ ops[j]? = some o ∧ ∃ e ∈ o.after.toList, e.on = i ∧ Region.binds .any e = true
  last : ∃ o : Oper, ops[N + 1]? = some o ∧ ∃ e ∈ o.after.toList, e.on = N ∧ Region.binds .any e = true

def tailedB (ops : Array Oper) (N : Nat) : Bool :=
  (ops.size == N + 2) && (List.range ops.size).all (fun i => match ops[i]? with | some o => o.after.toList.all fun e => decide (e.on < i) | none => true) &&
  (List.range N).all (fun i => (List.range (N + 1)).any fun j => decide (i < j) && (match ops[j]? with | some o => o.after.toList.any fun e => (e.on == i) && Region.binds .any e | none => false)) &&
  (match ops[N + 1]? with | some o => o.after.toList.any fun e => (e.on == N) && Region.binds .any e | none => false)

theorem tailed_of {ops : Array Oper} {N : Nat} (h : tailedB ops N = true) : Tailed ops N := by
  unfold tailedB at h
  simp only [Bool.and_eq_true] at h
  obtain ⟨⟨⟨h1, h2⟩, h3⟩, h4⟩ := h
  refine ⟨by simpa using h1, fun i o ho e he => ?_, fun i hi => ?_, ?_⟩
  · rw [List.all_eq_true] at h2
    have hi : i < ops.size := (Array.getElem?_eq_some_iff.1 ho).1
    have := h2 i (by simpa using hi)
    rw [ho] at this
    rw [List.all_eq_true] at this
    simpa using this e he
  · rw [List.all_eq_true] at h3
    have := h3 i (by simpa using hi)
    rw [List.any_eq_true] at this
    obtain ⟨j, hj, hjj⟩ := this
    rw [Bool.and_eq_true] at hjj
    obtain ⟨hij, hm⟩ := hjj
    cases ho : ops[j]? with
    | none => rw [ho] at hm; cases hm
    | some o =>
      rw [ho] at hm
      rw [List.any_eq_true] at hm
      obtain ⟨e, he, hee⟩ := hm
      rw [Bool.and_eq_true] at hee
      exact ⟨j, o, by simpa using hij, by simp at hj; omega, ho, e, he, by simpa using hee.1, hee.2⟩
  · cases ho : ops[N + 1]? with
    | none => rw [ho] at h4; cases h4
    | some o =>
      rw [ho] at h4
      rw [List.any_eq_true] at h4
      obtain ⟨e, he, hee⟩ := h4
      rw [Bool.and_eq_true] at hee
      exact ⟨o, rfl, e, he, by simpa using hee.1, hee.2⟩

/-- listed is closed downwards -/
def Closed (ops : Array Oper) (listed : Array Bool) : Prop := ∀ (i : Nat) (o : Oper), ops[i]? = some o → listed.getD i false = true → ∀ e ∈ o.after.toList, Region.binds .any e = true → listed.getD e.on false = true

theorem getD_set_listed {listed : Array Bool} {i j : Nat} (hi : i < listed.size) : (listed.setIfInBounds i true).getD j false = if i = j then true else listed.getD j false := by
  simp only [Array.getD_eq_getD_getElem?]
  by_cases e : i = j
  · subst e; simp [hi]
  · rw [Array.getElem?_setIfInBounds_ne e, if_neg e]

theorem getD_true_false {listed : Array Bool} {i : Nat} (hi : i < listed.size) : listed.getD i true = listed.getD i false := by
  simp [Array.getD, hi]

section
variable {F : Fence} {n : Nat} {P : Program} {ops : Array Oper} {Q : Exit → Act → World → Prop}

theorem Tailed.before {N : Nat} (ht : Tailed ops N) {listed : Array Bool} (hc : Closed ops listed) {o : Oper} (ho : ops[N]? = some o) (hp : ∀ e ∈ o.after.toList, Region.binds .any e = true → listed.getD e.on false = true) :
    ∀ k i, i < N → N - i ≤ k → listed.getD i false = true := by
  intro k
  induction k with
  | zero => intro i hi hk; omega
  | succ k ih =>
    intro i hi hk
    obtain ⟨j, oj, hij, hjN, hoj, e, he, rfl, hb⟩ := ht.succ i hi
    rcases Nat.lt_or_ge j N with h | h
    · exact hc j oj hoj (ih j h (by omega)) e he hb
    · have : j = N := by omega
      subst this
      rw [ho] at hoj
      cases hoj
      exact hp e he hb

theorem wpIn_region_tail {id : Nat} {a0 : Act} {w : World} (hm : P.follows .mixedOrders = true) (lo N : Nat) (ht : Tailed ops N) (S : World → Prop) (Φ : Nat → Value → World → Prop) (G : World → World → Prop)
    (hΦ : ∀ i v w w', G w w' → Φ i v w → Φ i v w')
    (hsz : lo + N ≤ a0.tmps.size) (h0 : S w.drew)
    (hop : ∀ (i : Nat) (o : Oper) (a : Act) (w : World), i < N → ops[i]? = some o → S w → Same a0 lo N a → (∀ e ∈ o.after.toList, Region.binds .any e = true → Φ e.on (a.tmps.getD (lo + e.on) undef) w) →
      o.guard = none ∧ o.dst = some (lo + i) ∧ o.wpIn F n P a w (fun a' w' => ∃ v, a' = a.put (some (lo + i)) v ∧ S w' ∧ G w w' ∧ Φ i v w') Q)
    (hend : ∀ (a : Act) (w : World), S w → Same a0 lo N a → (∀ i, i < N → Φ i (a.tmps.getD (lo + i) undef) w) →
      wpOpIn F n P ops Q N (fun a' w' => wpOpIn F n P ops Q (N + 1) (fun a'' w'' => Q .normal a'' w'') a' w') a w) :
    (Code.region id ops true).wpIn F n P Q a0 w := by
  refine wpIn_region_any hm ?_
  have hsize := ht.size
  refine wpAnyIn_inv (fun listed a w => Closed ops listed ∧
      ((listed.getD N false = false ∧ listed.getD (N + 1) false = false ∧ S w ∧ Same a0 lo N a ∧ ∀ i, i < N → listed.getD i false = true → Φ i (a.tmps.getD (lo + i) undef) w) ∨
       (listed.getD N false = true ∧ listed.getD (N + 1) false = false ∧ wpOpIn F n P ops Q (N + 1) (fun a'' w'' => Q .normal a'' w'') a w) ∨
       (listed.getD (N + 1) false = true ∧ Q .normal a w))) ?_ ?_ ops.size _ a0 _ (by simp) ?_ ⟨fun i o ho h => ?_, .inl ⟨?_, ?_, h0, Same.refl _ _ _, fun i hi h => ?_⟩⟩
  · rintro listed a w i hls ⟨hcl, hI⟩ hi
    obtain ⟨h1, h2, o, ho, hpre⟩ := ready_mem hi
    rw [getD_true_false (by omega)] at h2
    have hcl' : Closed ops (listed.setIfInBounds i true) := fun j oj hoj hl e he hb => by
      rw [getD_set_listed (by omega)] at hl ⊢
      by_cases eij : i = j
      · subst eij
        rw [ho] at hoj; cases hoj
        have := hpre e he hb
        split
        · rfl
        · exact this
      · rw [if_neg eij] at hl
        have := hcl j oj hoj hl e he hb
        split
        · rfl
        · exact this
    have hsetD : ∀ j, (listed.setIfInBounds i true).getD j false = if i = j then true else listed.getD j false := fun j => getD_set_listed (by omega)
    rcases hI with ⟨hN, hN1, hS, hsame, hsl⟩ | ⟨hN, hN1, hK⟩ | ⟨hN1, hQ⟩
    · rcases Nat.lt_or_ge i N with hiN | hiN
      · obtain ⟨hg, hd, hwp⟩ := hop i o a w hiN ho hS hsame (fun e he hb => by
          have hl := hpre e he hb
          have hlt := ht.lex i o ho e he
          exact hsl e.on (by omega) hl)
        unfold wpOpIn
        rw [ho]
        simp only [Region.wanted, hg, if_true]
        refine Oper.wpIn_mono (fun a' w' h => ?_) hwp
        obtain ⟨v, rfl, hS', hG, hv⟩ := h
        refine ⟨hcl', .inl ⟨by rw [hsetD, if_neg (by omega)]; exact hN, by rw [hsetD, if_neg (by omega)]; exact hN1, hS', hsame.put hiN v, fun j hj hl => ?_⟩⟩
        by_cases e : i = j
        · subst e
          rw [put_getD_same _ _ _ (by rw [hsame.size]; omega)]
          exact hv
        · rw [put_getD_ne _ _ _ _ (by omega)]
          rw [hsetD, if_neg e] at hl
          exact hΦ j _ _ _ hG (hsl j hj hl)
      · have hi2 : i = N ∨ i = N + 1 := by omega
        rcases hi2 with rfl | rfl
        · have hall := ht.before hcl ho hpre
          refine wpOpIn_mono (fun a' w' h => ?_) (hend a w hS hsame (fun j hj => hsl j hj (hall _ j hj (Nat.le_refl _))))
          exact ⟨hcl', .inr (.inl ⟨by rw [hsetD, if_pos rfl], by rw [hsetD, if_neg (by omega)]; exact hN1, h⟩)⟩
        · obtain ⟨o', ho', e, he, heN, hb⟩ := ht.last
          rw [ho] at ho'; cases ho'
          have := hpre e he hb
          rw [heN, hN] at this
          cases this
    · rcases Nat.lt_or_ge i N with hiN | hiN
      · have hoN : ∃ o, ops[N]? = some o := ⟨ops[N]'(by omega), Array.getElem?_eq_getElem (by omega)⟩
        obtain ⟨oN, hoN⟩ := hoN
        have := ht.before hcl hoN (hcl N oN hoN hN) _ i hiN (Nat.le_refl _)
        rw [h2] at this; cases this
      · have hi2 : i = N ∨ i = N + 1 := by omega
        rcases hi2 with rfl | rfl
        · rw [h2] at hN; cases hN
        · refine wpOpIn_mono (fun a' w' h => ?_) hK
          exact ⟨hcl', .inr (.inr ⟨by rw [hsetD, if_pos rfl], h⟩)⟩
    · have hN : listed.getD N false = true := by
        obtain ⟨o', ho', e, he, heN, hb⟩ := ht.last
        have := hcl (N + 1) o' ho' hN1 e he hb
        rwa [heN] at this
      rcases Nat.lt_or_ge i N with hiN | hiN
      · have hoN : ∃ o, ops[N]? = some o := ⟨ops[N]'(by omega), Array.getElem?_eq_getElem (by omega)⟩
        obtain ⟨oN, hoN⟩ := hoN
        have := ht.before hcl hoN (hcl N oN hoN hN) _ i hiN (Nat.le_refl _)
        rw [h2] at this; cases this
      · have hi2 : i = N ∨ i = N + 1 := by omega
        rcases hi2 with rfl | rfl
        · rw [h2] at hN; cases hN
        · rw [h2] at hN1; cases hN1
  · rintro listed a w hls ⟨hcl, hI⟩ hr
    have hready : ∀ i, i < ops.size → listed.getD i false = true := by
      intro i
      induction i using Nat.strongRecOn with
      | _ i ih =>
        intro hi
        rcases hl : listed.getD i false with _ | _
        · have hmem : i ∈ Region.ready .any ops listed := by
            simp only [Region.ready, List.mem_filter, List.mem_range, Bool.and_eq_true, Bool.not_eq_true']
            refine ⟨hi, by rw [getD_true_false (by omega)]; exact hl, ?_⟩
            rw [Array.getElem?_eq_getElem hi]
            simp only [Option.map_some, Option.getD_some]
            rw [Array.all_eq_true_iff_forall_mem]
            intro e he
            have hlt := ht.lex i _ (Array.getElem?_eq_getElem hi) e (by simpa using he)
            simp [ih e.on hlt (by omega)]
          rw [hr] at hmem; cases hmem
        · rfl
    rcases hI with ⟨hN, _⟩ | ⟨_, hN1, _⟩ | ⟨_, hQ⟩
    · rw [hready N (by omega)] at hN; cases hN
    · rw [hready (N + 1) (by omega)] at hN1; cases hN1
    · exact hQ
  · simp
  · have : (Array.replicate ops.size false).getD i false = false := by
      simp only [Array.getD_eq_getD_getElem?, Array.getElem?_replicate]; split <;> rfl
    rw [this] at h; cases h
  · simp only [Array.getD_eq_getD_getElem?, Array.getElem?_replicate]; split <;> rfl
  · simp only [Array.getD_eq_getD_getElem?, Array.getElem?_replicate]; split <;> rfl
  · have : (Array.replicate ops.size false).getD i false = false := by
      simp only [Array.getD_eq_getD_getElem?, Array.getElem?_replicate]; split <;> rfl
    rw [this] at h; cases h
end
end
end Go.Proofs
namespace Go.Proofs
open Go.RowKit Go.Proofs.Pc

section
variable {o : Oper} {a : Act} {w w' : World} {n : Nat} {next : Act → World → Prop} {Q : Exit → Act → World → Prop} {v : Value}

theorem wpW_val (hrun : (execOp a.eval o).run Try.prog w = .ok (.value v) w') (h : next (a.put o.dst v) w') : o.wpIn Fence.wide n Try.prog a w next Q :=
  ⟨fun _ _ => trivial, by rw [Fence.wide_round, Oper.semAt_none, hrun]; exact h⟩
theorem wpW_call {f : FuncId} {args : Array Value} {R : Value → World → Prop} (hrun : (execOp a.eval o).run Try.prog w = .ok (.enter f args) w')
    (hc : Calls Try.prog f args w' fun e w'' => ∃ v, e = .returned v ∧ R v w'') (h : ∀ v w'', R v w'' → next (a.put o.dst v) w'') : o.wpIn Fence.wide n Try.prog a w next Q :=
  ⟨fun _ _ => trivial, by
    rw [Fence.wide_round, Oper.semAt_none, hrun]
    refine ⟨fun hh => by simp [Fence.wide] at hh, callsIn_wide.2 (hc.mono ?_)⟩
    rintro e w'' ⟨v, rfl, hR⟩
    exact h v w'' hR⟩

theorem r_move (x : Operand) (ho : o.op = .move x) (hx : a.eval x = v) : (execOp a.eval o).run Try.prog w = .ok (.value v) w := by
  unfold execOp; simp only [ho, hx]; rfl
theorem r_nil (x : Operand) (ad : Addr) (ho : o.op = .nilCheck x) (hx : a.eval x = .pointer (some ad)) : (execOp a.eval o).run Try.prog w = .ok (.value (.pointer (some ad))) w := by
  unfold execOp; simp only [ho, hx]; rfl
theorem agg62 (w : World) : (isAgg 62).run Try.prog w = .ok false w := by kernel_rfl
theorem agg3 (w : World) : (isAgg 3).run Try.prog w = .ok false w := by kernel_rfl
theorem r_load62 (x : Operand) (ad : Addr) (ho : o.op = .load 62 x) (hx : a.eval x = .pointer (some ad)) (hc : w.cell? ad = some v) : (execOp a.eval o).run Try.prog w = .ok (.value v) w := by
  unfold execOp
  simp only [ho, hx, Instr.loadAt, Instr.sureAddr, loadVar, Sem.run_bind, Sem.run_pure, Result.andThen_ok, agg62]
  simp [go_sem, hc]
theorem r_load3 (x : Operand) (ad : Addr) (ho : o.op = .load 3 x) (hx : a.eval x = .pointer (some ad)) (hc : w.cell? ad = some v) : (execOp a.eval o).run Try.prog w = .ok (.value v) w := by
  unfold execOp
  simp only [ho, hx, Instr.loadAt, Instr.sureAddr, loadVar, Sem.run_bind, Sem.run_pure, Result.andThen_ok, agg3]
  simp [go_sem, hc]
theorem r_load82 (x : Operand) (b k : Nat) (xs : List Int) (ho : o.op = .load 82 x) (hx : a.eval x = .pointer (some ⟨b, k, none⟩)) (hc : w.rangeAt b k (vec xs)) : (execOp a.eval o).run Try.prog w = .ok (.value (.agg (vec xs).toArray)) w := by
  unfold execOp
  simp only [ho, hx, Sem.run_bind, run_loadAt_mid (P := Try.prog) w b k 82 (vec xs) _ hc Try.underlying82 rfl (by rw [length_vec]; exact info82), Result.andThen_ok]
  rfl
theorem fld86_1 (b k : Nat) (w : World) : (Instr.fieldAt 86 (.pointer (some ⟨b, k, none⟩)) 1).run Try.prog w = .ok (.pointer (some ⟨b, k + 1, none⟩)) w := by kernel_rfl
theorem fld86_2 (b k : Nat) (w : World) : (Instr.fieldAt 86 (.pointer (some ⟨b, k, none⟩)) 2).run Try.prog w = .ok (.pointer (some ⟨b, k + 13, none⟩)) w := by kernel_rfl
theorem fld113_1 (b k : Nat) (w : World) : (Instr.fieldAt 113 (.pointer (some ⟨b, k, none⟩)) 1).run Try.prog w = .ok (.pointer (some ⟨b, k + 1, none⟩)) w := by kernel_rfl
theorem r_fld {T i : Nat} (x : Operand) (ad : Value) (ho : o.op = .fieldAddr T x i) (hx : a.eval x = ad) (hf : (Instr.fieldAt T ad i).run Try.prog w = .ok v w) : (execOp a.eval o).run Try.prog w = .ok (.value v) w := by
  unfold execOp; simp only [ho, hx, Sem.run_bind, hf, Result.andThen_ok]; rfl
theorem idx_run (T E sz len : Nat) (hu : Try.prog.underlying T = some (.array len E)) (hs : ∀ w, (sizeOf E).run Try.prog w = .ok sz w) (b k i : Nat) (hi : i < len) (w : World) :
    (Instr.indexAt T (.pointer (some ⟨b, k, none⟩)) (.int .i64 (i : Int))).run Try.prog w = .ok (.pointer (some ⟨b, k + i * sz, none⟩)) w := by
  have h1 : (0 : Int) ≤ (i : Int) ∧ (i : Int) < (len : Int) := ⟨by omega, by omega⟩
  have h2 := Addr.add_mid b k (i * sz)
  simp [Instr.indexAt, asIntOf, run_underlying hu, Instr.sureAddr, hs, h2]
  intro h
  omega
theorem r_idx {T : Nat} (x y : Operand) (ad i : Value) (ho : o.op = .indexAddr T x y) (hx : a.eval x = ad) (hy : a.eval y = i) (hf : (Instr.indexAt T ad i).run Try.prog w = .ok v w) : (execOp a.eval o).run Try.prog w = .ok (.value v) w := by
  unfold execOp; simp only [ho, hx, hy, Sem.run_bind, hf, Result.andThen_ok]; rfl
theorem r_bs2 (x y : Operand) (xs ys : List Int) (ho : o.op = .buildSlice 125 2 #[(0, x), (1, y)]) (hx : a.eval x = .agg (vec xs).toArray) (hy : a.eval y = .agg (vec ys).toArray) :
    (execOp a.eval o).run Try.prog w = .ok (.value (.slice (some ⟨w.heap.size, 0, none⟩) 2 2)) (w.alloc (.cells (vec xs ++ vec ys).toArray 82)) := by
  have hb := bslice2 xs ys w
  unfold execOp
  simp only [ho, List.map_toArray, List.map_cons, List.map_nil, hx, hy, Sem.run_bind, hb, Result.andThen_ok]
  rfl
theorem r_bs3 (x y z : Operand) (xs ys zs : List Int) (ho : o.op = .buildSlice 125 3 #[(0, x), (1, y), (2, z)]) (hx : a.eval x = .agg (vec xs).toArray) (hy : a.eval y = .agg (vec ys).toArray) (hz : a.eval z = .agg (vec zs).toArray) :
    (execOp a.eval o).run Try.prog w = .ok (.value (.slice (some ⟨w.heap.size, 0, none⟩) 3 3)) (w.alloc (.cells (vec xs ++ vec ys ++ vec zs).toArray 82)) := by
  have hb := bslice3 xs ys zs w
  unfold execOp
  simp only [ho, List.map_toArray, List.map_cons, List.map_nil, hx, hy, hz, Sem.run_bind, hb, Result.andThen_ok]
  rfl
theorem r_call2 {f : FuncId} (x y : Operand) (u v : Value) (T : Array TypeId) (ho : o.op = .call { callee := .value (.func f), args := #[x, y], argTypes := T }) (hx : a.eval x = u) (hy : a.eval y = v)
    (he : ∀ args w, (callFunc f args).run Try.prog w = .ok (.enter f args) w) : (execOp a.eval o).run Try.prog w = .ok (.enter f #[u, v]) w := by
  have hf : a.eval (.func f) = .func (.func f) #[] #[] := rfl
  unfold execOp
  simp only [ho, resolve, List.map_toArray, List.map_cons, List.map_nil, hx, hy, hf]
  simp [go_sem, he]
theorem r_sub1 (x : Operand) (m : Int) (ho : o.op = .binOp .sub 3 x (.const (.int .i64 1)) 3) (hx : a.eval x = .int .i64 m) (hm : -9223372036854775807 ≤ m ∧ m ≤ 9223372036854775807) : (execOp a.eval o).run Try.prog w = .ok (.value (.int .i64 (m - 1))) w := by
  have hwr : IntKind.i64.wrap (m - 1) = m - 1 := IntWalk.i64_in _ (by omega)
  have hc : a.eval (.const (.int .i64 1)) = .int .i64 1 := rfl
  unfold execOp
  simp only [ho, hx, hc]
  simp [go_sem, hwr]
theorem r_yield {l : Nat} {fn : FuncId} {tmps : Array Value} {assign body : Code} (f x y : Operand) (u v : Value) (T : Array TypeId) (ho : o.op = .call { callee := .value f, args := #[x, y], argTypes := T }) (hf : a.eval f = .func (.yield l) #[] #[]) (hx : a.eval x = u) (hy : a.eval y = v)
    (hr : (Instr.yield l #[u, v]).run Try.prog w = .ok (.round l fn tmps assign body) w) : (execOp a.eval o).run Try.prog w = .ok (.round l fn tmps assign body) w := by
  unfold execOp
  simp only [ho, resolve, List.map_toArray, List.map_cons, List.map_nil, hf, hx, hy]
  simp [go_sem, hr]
theorem wpW_yield {l : Nat} {args : Array Value} {R : Ending → World → Prop} (hy : YieldAt Fence.wide (n - 1) Try.prog l args w R)
    (hrun : ∀ fn tmps assign body, (Instr.yield l args).run Try.prog w = .ok (.round l fn tmps assign body) w → (execOp a.eval o).run Try.prog w = .ok (.round l fn tmps assign body) w)
    (hR : ∀ e w', R e w' → ∃ b, e = .returned (.bool b) ∧ next (a.put o.dst (.bool b)) w') : o.wpIn Fence.wide n Try.prog a w next Q := by
  obtain ⟨fn, tmps, assign, body, h1, h2⟩ := hy
  refine ⟨fun _ _ => trivial, ?_⟩
  rw [Fence.wide_round, Oper.semAt_none, hrun _ _ _ _ h1]
  refine ⟨fun hh => by simp [Fence.wide] at hh, h2.mono ?_⟩
  intro e w' hw
  obtain ⟨b, rfl, hn⟩ := hR e w' hw
  exact hn
theorem r_not (x : Operand) (b : Bool) (ho : o.op = .unOp .not 4 x) (hx : a.eval x = .bool b) : (execOp a.eval o).run Try.prog w = .ok (.value (.bool !b)) w := by
  unfold execOp; simp only [ho, hx]; rfl
end

/-- The frame behind a region, written out. -/
theorem Same.frame {a0 a : Act} {lo N : Nat} (h : Same a0 lo N a) (hsz : lo + N ≤ a0.tmps.size) :
    a = { tmps := (a0.tmps.toList.take lo ++ (List.range N).map (fun i => a.tmps.getD (lo + i) undef) ++ a0.tmps.toList.drop (lo + N)).toArray, defers := a0.defers } := by
  obtain ⟨t, d⟩ := a
  have hd := h.defers
  have hs := h.size
  simp only at hd hs
  subst hd
  congr 1
  apply Array.ext'
  apply List.ext_getElem?
  intro k
  have hg : ∀ j, j < t.size → t.toList[j]? = some (t.getD j undef) := fun j hj => by simp [Array.getD, hj]
  have hg0 : ∀ j, j < a0.tmps.size → a0.tmps.toList[j]? = some (a0.tmps.getD j undef) := fun j hj => by simp [Array.getD, hj]
  rcases Nat.lt_or_ge k t.size with hk | hk
  · rw [hg k hk]
    rcases Nat.lt_or_ge k lo with h1 | h1
    · rw [List.getElem?_append_left (by simp; omega), List.getElem?_append_left (by simp; omega), List.getElem?_take, if_pos h1, hg0 k (by omega), h.out k (.inl h1)]
    · rcases Nat.lt_or_ge k (lo + N) with h2 | h2
      · rw [List.getElem?_append_left (by simp; omega), List.getElem?_append_right (by simp; omega)]
        have e : min lo a0.tmps.size = lo := by omega
        simp [e, List.getElem?_map, List.getElem?_range (show k - lo < N by omega), show lo + (k - lo) = k by omega]
      · rw [List.getElem?_append_right (by simp; omega)]
        have e : min lo a0.tmps.size = lo := by omega
        simp only [List.length_append, List.length_take, List.length_map, List.length_range, Array.length_toList, e, List.getElem?_drop]
        rw [show lo + N + (k - (lo + N)) = k by omega, hg0 k (by omega), h.out k (.inr h2)]
  · rw [List.getElem?_eq_none (by simpa using hk), List.getElem?_eq_none (by simp; omega)]
end Go.Proofs
namespace Go.Proofs
open Go.RowKit Go.Proofs.Pc

theorem wide_fn (f : FuncId) : Fence.wide.fn f := trivial

inductive SV where
  | c (v : Value)
  | vs (l : List (List Int))
  | any
def SV.holds : SV → Value → World → Prop
  | SV.c u, v, _ => v = u
  | SV.vs l, v, w => VecsAt w v l
  | SV.any, _, _ => True
theorem VecsAt.below {w w' : World} {v : Value} {l : List (List Int)} (h : VecsAt w v l) (hb : Below w.heap.size w w') : VecsAt w' v l := by
  obtain ⟨b, cap, rfl, h1, h2, h3⟩ := h
  refine ⟨b, cap, rfl, h1, h2, fun i hi j u hu => ?_⟩
  have := h3 i hi j u hu
  rw [hb.cell (World.block_lt_of_cell? w _ this)]
  exact this
theorem SV.keep {s : SV} {v : Value} {w w' : World} (h : Below w.heap.size w w') : s.holds v w → s.holds v w' := by
  cases s with
  | c _ => exact id
  | vs l => exact fun hh => VecsAt.below hh h
  | any => exact id

/-- whatever block of cells lay, lies -/
def KC (w w' : World) : Prop := w.heap.size ≤ w'.heap.size ∧ ∀ (k : Nat) (C : Array Value) (t : TypeId) (fr : Nat × Nat), w.heap[k]? = some (Obj.cells C t fr) → w'.heap[k]? = some (Obj.cells C t fr)
theorem KC.refl (w : World) : KC w w := ⟨Nat.le_refl _, fun _ _ _ _ h => h⟩
theorem KC.trans {a b c : World} (h : KC a b) (k : KC b c) : KC a c := ⟨Nat.le_trans h.1 k.1, fun i C t fr hi => k.2 i C t fr (h.2 i C t fr hi)⟩
theorem KC.of_below {w w' : World} (h : Below w.heap.size w w') : KC w w' := ⟨h.size, fun k _C _t _fr hk => (h.block k (Array.getElem?_eq_some_iff.1 hk).1).trans hk⟩
theorem KC.put {W : World} {l : Nat} {o o' : Obj} (h : W.heap[l]? = some o) (hc : o.isCells = false) : KC W (W.putObj l o') :=
  ⟨by simp, fun k C t fr hk => by
    by_cases e : k = l
    · subst e; rw [h] at hk; cases hk; cases hc
    · exact (World.putObj_heap_other e).trans hk⟩
theorem KC.cell {w w' : World} (h : KC w w') {a : Addr} {v : Value} (hc : w.cell? a = some v) : w'.cell? a = some v := by
  unfold World.cell? at hc ⊢
  cases ho : w.heap[a.block]? with
  | none => simp [ho] at hc
  | some o =>
    cases o with
    | cells C t fr => rw [h.2 _ C t fr ho]; simpa [ho] using hc
    | _ => simp [ho] at hc
theorem KC.range {w w' : World} (h : KC w w') {b o : Nat} {cs : List Value} (hc : w.rangeAt b o cs) : w'.rangeAt b o cs := fun j v hv => h.cell (hc j v hv)
theorem KC.rules {w w' : World} (h : KC w w') {br : Nat} {P : PcD} (hr : RulesAt w br P) : RulesAt w' br P :=
  ⟨h.cell hr.n, h.range hr.ord, fun i hi => h.range (hr.pow i hi), fun j hj i hi => h.range (hr.cj j hj i hi)⟩
theorem KC.coll {w w' : World} (h : KC w w') {bc br : Nat} {x : List Int} (hc : CollAt w bc br x) : CollAt w' bc br x := h.2 _ _ _ _ hc

theorem call71 (args : Array Value) (w : World) : (callFunc 71 args).run Try.prog w = .ok (.enter 71 args) w := 
  enters_of Try.func71 (by kernel_rfl) rfl args w
theorem call81 (args : Array Value) (w : World) : (callFunc 81 args).run Try.prog w = .ok (.enter 81 args) w := 
  enters_of Try.func81 (by kernel_rfl) rfl args w

theorem nvs1 {P : PcD} {y : List Int} (h : NV P y) : ∀ i, i < [y].length → NV P ([y].getD i []) := fun i hi => by
  have : i = 0 := by simp at hi; omega
  subst this; exact h
theorem nvs2 {P : PcD} {y z : List Int} (h : NV P y) (h2 : NV P z) : ∀ i, i < [y, z].length → NV P ([y, z].getD i []) := fun i hi => by
  have : i = 0 ∨ i = 1 := by simp at hi; omega
  rcases this with rfl | rfl
  · exact h
  · exact h2

theorem mul_R {P : PcD} (hv : Valid P) {w : World} {br : Nat} {sv : Value} {x : List Int} {ys : List (List Int)} (hr : RulesAt w br P) (hs : VecsAt w sv (x :: ys)) (hx : NV P x) (hy : ∀ i, i < ys.length → NV P (ys.getD i [])) (hpos : 0 < ys.length) :
    Calls Try.prog 71 #[.pointer (some ⟨br, 0, none⟩), sv] w fun e w' => ∃ v, e = .returned v ∧ (v = .agg (vec (foldP P x ys ys.length)).toArray ∧ Below w.heap.size w w') :=
  (mul_any hv w br sv x ys hr hs hx hy hpos).mono fun _e _w' ⟨he, hb⟩ => ⟨_, he, rfl, hb⟩

theorem mul_R1 {P : PcD} (hv : Valid P) {w : World} {br : Nat} {sv : Value} {x y : List Int} (hr : RulesAt w br P) (hs : VecsAt w sv [x, y]) (hx : NV P x) (hy : NV P y) :
    Calls Try.prog 71 #[.pointer (some ⟨br, 0, none⟩), sv] w fun e w' => ∃ v, e = .returned v ∧ (v = .agg (vec (mulP P x y)).toArray ∧ Below w.heap.size w w') :=
  mul_R hv hr hs hx (nvs1 hy) (by simp)

theorem vec_unit {P : PcD} {i : Nat} {x : Int} (hi : i < P.n) (hn : P.n ≤ 12) : vec (unitP i x) = vec (uP P i x) := by
  unfold vec
  refine List.map_congr_left fun k hk => ?_
  rw [getD_unitP _ _ _ (by omega), getD_uP]
  by_cases h : k = i
  · subst h; rw [if_pos rfl, if_pos ⟨rfl, hi⟩]
  · rw [if_neg h, if_neg (fun hh => h hh.1)]
theorem unit_R (P : PcD) (i : Nat) (x : Int) (hi : i < P.n) (hn : P.n ≤ 12) {w : World} :
    Calls Try.prog 81 #[.int .i64 i, .int .i64 x] w fun e w' => ∃ v, e = .returned v ∧ (v = .agg (vec (uP P i x)).toArray ∧ Below w.heap.size w w') :=
  (unit_any w i x (by omega)).mono fun e w' ⟨he, hb⟩ => ⟨_, he, by rw [vec_unit hi hn], hb⟩

theorem wpOpIn_of {F : Fence} {n : Nat} {P : Program} {ops : Array Oper} {Q : Exit → Act → World → Prop} {i : Nat} {o : Oper} {K : Act → World → Prop} {a : Act} {w : World} (ho : ops[i]? = some o) (hg : o.guard = none) (h : o.wpIn F n P a w K Q) : wpOpIn F n P ops Q i K a w := by
  unfold wpOpIn
  rw [ho]
  simp only [Region.wanted, hg, if_true]
  exact h

section
variable {o : Oper} {rest : List Oper} {ops : Array Oper} {a : Act} {w w' : World} {n : Nat} {Q : Exit → Act → World → Prop} {v : Value}
theorem wpListIn_sel (s : Nat) {F : Fence} {op : Op} {t : TypeId} {p : String} {af : Array Edge} {g : Option (Nat × Bool)} (h : wpListIn F n Try.prog ops Q (⟨some s, op, t, p, af, g⟩ :: rest) a w) : wpListIn F n Try.prog ops Q (⟨some s, op, t, p, af, g⟩ :: rest) a w := h
theorem wpListIn_val (hg : o.guard = none) (hrun : (execOp a.eval o).run Try.prog w = .ok (.value v) w') (h : wpListIn Fence.wide n Try.prog ops Q rest (a.put o.dst v) w') : wpListIn Fence.wide n Try.prog ops Q (o :: rest) a w :=
  wpListIn_plain hg fun _ hK => wpW_val hrun (hK _ _ h)
theorem wpListIn_callW {f : FuncId} {args : Array Value} {R : Value → World → Prop} (hg : o.guard = none) (hrun : (execOp a.eval o).run Try.prog w = .ok (.enter f args) w')
    (hc : Calls Try.prog f args w' fun e w'' => ∃ v, e = .returned v ∧ R v w'') (h : ∀ v w'', R v w'' → wpListIn Fence.wide n Try.prog ops Q rest (a.put o.dst v) w'') : wpListIn Fence.wide n Try.prog ops Q (o :: rest) a w :=
  wpListIn_plain hg fun _ hK => wpW_call hrun hc (fun v w'' hR => hK _ _ (h v w'' hR))
end

theorem r_bld113 {o : Oper} {a : Act} {w : World} (x y : Operand) (br : Nat) (xs : List Int) (ho : o.op = .build 113 #[(0, x), (1, y)]) (hx : a.eval x = .pointer (some ⟨br, 0, none⟩)) (hy : a.eval y = .agg (vec xs).toArray) :
    (execOp a.eval o).run Try.prog w = .ok (.value (.agg (Value.pointer (some ⟨br, 0, none⟩) :: vec xs).toArray)) w := by
  have hb := build113 br xs w
  unfold execOp
  simp only [ho, List.map_toArray, List.map_cons, List.map_nil, hx, hy, Sem.run_bind, hb, Result.andThen_ok]
  rfl

def LJ (P : PcD) (i j : Nat) : List (List Int × List Int) := ovI P i ++ ([pI P i] ++ ovJ P i j)
def LK (P : PcD) (i j k : Nat) : List (List Int × List Int) := LJ P i j ++ [pJ1 P i j] ++ [pJ2 P i j] ++ ovK P i j k
theorem LJ_start (P : PcD) (i : Nat) : LJ P i (i + 1) = ovI P i ++ [pI P i] := by
  have e : ovJ P i (i + 1) = [] := by unfold ovJ; rw [Nat.sub_self]; rfl
  unfold LJ
  rw [e, List.append_nil]
theorem LJ_end (P : PcD) (i : Nat) : LJ P i P.n = ovI P (i + 1) := rfl
theorem LK_start (P : PcD) (i j : Nat) : LK P i j (j + 1) = LJ P i j ++ [pJ1 P i j] ++ [pJ2 P i j] := by
  have e : ovK P i j (j + 1) = [] := by unfold ovK; rw [Nat.sub_self]; rfl
  unfold LK
  rw [e, List.append_nil]
theorem LK_end (P : PcD) {i j : Nat} (h : i + 1 ≤ j) : LK P i j P.n = LJ P i (j + 1) := by
  unfold LK LJ
  rw [ovJ_succ P h]
  simp
theorem LK_succ (P : PcD) {i j k : Nat} (h : j + 1 ≤ k) : LK P i j (k + 1) = LK P i j k ++ [pK P i j k] := by
  unfold LK
  rw [ovK_succ P h]
  simp
theorem pre_1 (P : PcD) {i j : Nat} (hi : i < P.n) (h : i + 1 ≤ j) (hj : j < P.n) : Pre (LJ P i j ++ [pJ1 P i j]) (ovl P) := by
  have := pre_J' P hi h hj (x := [pJ1 P i j]) ⟨_, rfl⟩
  simpa [LJ] using this
theorem pre_2 (P : PcD) {i j : Nat} (hi : i < P.n) (h : i + 1 ≤ j) (hj : j < P.n) : Pre (LJ P i j ++ [pJ1 P i j] ++ [pJ2 P i j]) (ovl P) := by
  have := pre_J' P hi h hj (x := [pJ1 P i j, pJ2 P i j]) ⟨_, rfl⟩
  simpa [LJ] using this
theorem pre_3 (P : PcD) {i j k : Nat} (hi : i < P.n) (h : i + 1 ≤ j) (hj : j < P.n) (hk : j + 1 ≤ k) (hkn : k < P.n) : Pre (LK P i j k ++ [pK P i j k]) (ovl P) := by
  rw [← LK_succ P hk]
  have := pre_J' P hi h hj (x := [pJ1 P i j, pJ2 P i j] ++ ovK P i j (k + 1)) (Pre.app _ (pre_ovK P (by omega)))
  simpa [LJ, LK] using this

theorem KC.alloc {w w' : World} (h : KC w w') (o : Obj) : KC w (w'.alloc o) := h.trans (KC.of_below ((Below.refl _ _).alloc (Nat.le_refl _) _))
theorem KC.below {w w' w'' : World} (h : KC w w') (hb : Below w'.heap.size w' w'') : KC w w'' := h.trans (KC.of_below hb)

def encP (p : List Int × List Int) : Array Value := #[.agg (vec p.1).toArray, .agg (vec p.2).toArray]
end Go.Proofs
namespace Go.Proofs.Pc
/-- the inverse of the word of y, the first t letters' blocks from behind -/
def backTo (y : V) (n t : Nat) : List Int := foldTo (fun t w => w ++ List.replicate (y.getD (n - 1 - t) 0).toNat (-((n - 1 - t : Nat) : Int) - 1)) t []
def back (y : V) (n : Nat) : List Int := backTo y n n
def relW (P : PcD) (i : Nat) : List Int := List.replicate (P.ord i).toNat ((i : Int) + 1) ++ back (P.pow i) P.n
def relC (P : PcD) (j i : Nat) : List Int := [-(i : Int) - 1, (j : Int) + 1, (i : Int) + 1] ++ back (P.cj j i) P.n
def relsI (P : PcD) (m : Nat) : List (List Int) := foldTo (fun i l => l ++ [relW P i]) m []
def relsJ (P : PcD) (j m : Nat) : List (List Int) := foldTo (fun i l => l ++ [relC P j i]) m []
def relsC (P : PcD) (m : Nat) : List (List Int) := foldTo (fun j l => l ++ relsJ P j j) m []
def rels (P : PcD) : List (List Int) := relsI P P.n ++ relsC P P.n
def tot : List (List Int) → Int
  | [] => 0
  | x :: l => (x.length : Int) + tot l
theorem tot_app (a b : List (List Int)) : tot (a ++ b) = tot a + tot b := by
  induction a with
  | nil => simp [tot]
  | cons x l ih => simp only [List.cons_append, tot, ih]; omega
theorem tot_snoc (a : List (List Int)) (x : List Int) : tot (a ++ [x]) = tot a + (x.length : Int) := by rw [tot_app]; simp [tot]
theorem tot_nonneg : ∀ l : List (List Int), 0 ≤ tot l
  | [] => Int.le_refl _
  | x :: l => by have := tot_nonneg l; simp only [tot]; omega
theorem backTo_len (y : V) (n : Nat) (hy : ∀ k, k < n → 0 ≤ y.getD k 0 ∧ y.getD k 0 ≤ 1000) : ∀ t, t ≤ n → (backTo y n t).length ≤ 1000 * t
  | 0, _ => Nat.zero_le _
  | t + 1, ht => by
    show (backTo y n t ++ List.replicate (y.getD (n - 1 - t) 0).toNat _).length ≤ _
    rw [List.length_append, List.length_replicate]
    have h1 := backTo_len y n hy t (by omega)
    have h2 := hy (n - 1 - t) (by omega)
    omega
end Go.Proofs.Pc
namespace Go.Proofs
open Go.RowKit Go.Proofs.Pc

set_option maxRecDepth 100000 in
set_option maxHeartbeats 400000 in
theorem equal17_any (w : World) (va vb : Value) (x y : List Int) (ha : IntsAt w va x) (hb : IntsAt w vb y) :
    Calls Try.prog 68 #[va, vb] w fun e w' => e = .returned (.bool (decide (x = y))) ∧ ∃ q, w' = w.drewN q := by
  obtain ⟨A3, c3, rfl, hd1, hd2, hd⟩ := ha.open_
  obtain ⟨A4, c4, rfl, he1, he2, he⟩ := hb.open_
  have HD := Lib.hid hd
  have HE := Lib.hid he
  clear hd he ha hb
  by_cases hxy : x.length = y.length
  · have d3 : ((x.length : Int) != (y.length : Int)) = false := by simp; omega
    have d4 : (x.length != y.length) = false := by simp; omega
    have HX := Lib.hid hxy
    clear hxy
    go_enter Try.func68, Try.ntmps68
    go_wp2_with fail
    go_loopw [5] (fun i wr => ∃ j : Nat, j ≤ x.length ∧ i = .int .i64 j ∧ (∀ t, t < j → x.getD t 0 = y.getD t 0) ∧ ∃ q, wr = w.drewN q) (fun i _ => x.length - (intOf i).toNat)
    case atStart => exact ⟨0, Nat.zero_le _, rfl, fun j hj => absurd hj (by omega), 0, rfl⟩
    case round =>
      obtain ⟨j, hj, rfl, hzj, qj, rfl⟩ := hrel
      have HZJ := Lib.hid hzj
      clear hzj
      by_cases hjl : j < x.length
      · obtain ⟨b3, o3, rfl, hx⟩ := HD.out (by omega)
        obtain ⟨b4, o4, rfl, hy⟩ := HE.out (by rw [← HX.out]; omega)
        have hx1 := hx j hjl
        have hy1 := hy j (by rw [← HX.out]; omega)
        have hj0 : (0 : Int) ≤ (j : Int) := Int.natCast_nonneg _
        have hjb : (j : Int) < (y.length : Int) := by rw [← HX.out]; omega
        have hja : (j : Int) < (x.length : Int) := by omega
        have HM := Lib.hid (fun h => getD_ne (A := x) (B := y) (d := 0) (k := j) h)
        clear hx hy
        generalize hse : x.getD j 0 = s at *
        generalize hte : y.getD j 0 = t at *
        have HSE := Lib.hid hse
        have HTE := Lib.hid hte
        clear hse hte
        by_cases hst : s = t
        · have d5 : (s != t) = false := by simpa using hst
          have HS := Lib.hid hst
          clear hst
          go_wp2_with fail
          go_quiet (fail)
          go_wp2_with fail
          go_roundw
          case rel => exact ⟨j + 1, by omega, by go_num, all_succ HZJ.out (by rw [HSE.out, HTE.out]; exact HS.out), (by first | exact ⟨_, rfl⟩ | exact ex_drewN)⟩
          case measure => simp [intOf]; omega
        · have d5 : (s != t) = true := by simpa using hst
          have HS := Lib.hid hst
          clear hst
          go_wp2_with fail
          go_quiet (fail)
          go_wp2_with fail
          go_ret
          exact ⟨ret_bool (by simpa using HM.out HS.out), (by first | exact ⟨_, rfl⟩ | exact ex_drewN)⟩
      · obtain rfl : j = x.length := by omega
        go_wp2_with fail
        go_ret
        exact ⟨ret_bool (by simpa using getD_ext HX.out HZJ.out), (by first | exact ⟨_, rfl⟩ | exact ex_drewN)⟩
  · have d3 : ((x.length : Int) != (y.length : Int)) = true := by simp; omega
    have d4 : (x.length != y.length) = true := by simp; omega
    have HX := Lib.hid hxy
    clear hxy
    go_enter Try.func68, Try.ntmps68
    go_wp2_with fail
    go_ret
    exact ⟨ret_bool (by simpa using fun e => HX.out (by rw [e])), 0, rfl⟩

theorem equal17_left {w : World} {va vb : Value} {A B : List Int} {b : Bool} (a n : Nat) (ha : IntsAt w va A) (hb : IntsAt w vb B) (h : decide (A = B) = b) :
    Calls Try.prog 68 #[va, vb] (w.drewN (a + n)) fun e w'' => e = .returned (.bool b) ∧ ∃ m, w'' = w.drewN (a + m) :=
  (equal17_any (w.drewN (a + n)) va vb A B (ha.drewN _) (hb.drewN _)).mono fun _ _ ⟨he, q, hq⟩ => ⟨by rw [he, h], n + q, by rw [hq, World.drewN_drewN, Nat.add_assoc]⟩

def presB (g h : Int) (A B : List (List Int)) : Bool := decide (g = h) && decide (A = B)
set_option maxRecDepth 100000 in
set_option maxHeartbeats 1000000 in
theorem same17_any (w : World) (g h : Int) (va vb : Value) (A B : List (List Int)) (ha : Tab w va A) (hb : Tab w vb B) (hg : g = h) :
    Calls Try.prog 27 #[.agg #[.int .i64 g, va], .agg #[.int .i64 h, vb]] w fun e w' => e = .returned (.bool (decide (A = B))) ∧ Below w.heap.size w w' := by
  subst hg
  obtain ⟨A0, ca, rfl, ha1, ha2, ha3⟩ := ha.open_
  obtain ⟨B0, cb, rfl, hb1, hb2, hb3⟩ := hb.open_
  have HA := Lib.hid ha3
  have HB := Lib.hid hb3
  have hc := allocs_get [Obj.cells #[Value.int .i64 g, .slice A0 A.length ca] 46, Obj.cells #[Value.int .i64 g, .slice B0 B.length cb] 46] w
  have hbw := allocs_below [Obj.cells #[Value.int .i64 g, .slice A0 A.length ca] 46, Obj.cells #[Value.int .i64 g, .slice B0 B.length cb] 46] w _ (Nat.le_refl _)
  have c1 : ((w.alloc (.cells #[.int .i64 g, .slice A0 A.length ca] 46)).alloc (.cells #[.int .i64 g, .slice B0 B.length cb] 46)).cell? ⟨w.heap.size, 1, none⟩ = some (.slice A0 A.length ca) := (cell_of_row _ _ 1 _ _ _ (hc 0 _ rfl)).trans rfl
  have c2 : ((w.alloc (.cells #[.int .i64 g, .slice A0 A.length ca] 46)).alloc (.cells #[.int .i64 g, .slice B0 B.length cb] 46)).cell? ⟨w.heap.size + 1, 1, none⟩ = some (.slice B0 B.length cb) := (cell_of_row _ _ 1 _ _ _ (hc 1 _ rfl)).trans rfl
  have HBW : Hid (Below w.heap.size w ((w.alloc (.cells #[.int .i64 g, .slice A0 A.length ca] 46)).alloc (.cells #[.int .i64 g, .slice B0 B.length cb] 46))) := Lib.hid hbw
  clear ha hb ha3 hb3 hc hbw
  have d0 : (g != g) = false := by simp
  by_cases hl : A.length = B.length
  · have d1 : ((A.length : Int) != (B.length : Int)) = false := by simp; omega
    have d2 : (A.length != B.length) = false := by simp; omega
    have HL := Lib.hid hl
    clear hl
    go_enter Try.func27, Try.ntmps27
    go_wp2_with fail
    generalize (w.alloc (.cells #[.int .i64 g, .slice A0 A.length ca] 46)).alloc (.cells #[.int .i64 g, .slice B0 B.length cb] 46) = W at *
    go_loopw [5] (fun i wr => ∃ k : Nat, k ≤ A.length ∧ i = .int .i64 k ∧ (∀ j, j < k → A.getD j [] = B.getD j []) ∧ ∃ q, wr = W.drewN q) (fun i _ => A.length - (intOf i).toNat)
    case atStart => exact ⟨0, Nat.zero_le _, rfl, fun j hj => absurd hj (by omega), 0, rfl⟩
    case round =>
      obtain ⟨k, hk, rfl, hz, q, rfl⟩ := hrel
      have HZ := Lib.hid hz
      clear hz
      by_cases hlt : k < A.length
      · obtain ⟨b1, o1, rfl, hc1⟩ := HA.out (by omega)
        obtain ⟨b2, o2, rfl, hc2⟩ := HB.out (by rw [← HL.out]; omega)
        obtain ⟨u1, hu1, hr1⟩ := hc1 k hlt
        obtain ⟨u2, hu2, hr2⟩ := hc2 k (by rw [← HL.out]; omega)
        have hv1 := (KC.of_below HBW.out).cell hu1
        have hv2 := (KC.of_below HBW.out).cell hu2
        have HR1 := Lib.hid (hr1.below HBW.out)
        have HR2 := Lib.hid (hr2.below HBW.out)
        have hk0 : (0 : Int) ≤ (k : Int) := Int.natCast_nonneg _
        have hkb : (k : Int) < (B.length : Int) := by rw [← HL.out]; omega
        have hka : (k : Int) < (A.length : Int) := by omega
        have HN := Lib.hid (fun h => getD_ne (A := A) (B := B) (d := []) (k := k) h)
        clear hc1 hc2 hu1 hu2 hr1 hr2
        generalize hxe : A.getD k [] = x at *
        generalize hye : B.getD k [] = y at *
        have HXE := Lib.hid hxe
        have HYE := Lib.hid hye
        clear hxe hye
        by_cases hxy : x = y
        · have HX := Lib.hid hxy
          clear hxy
          go_wp2_with fail
          go_quiet ((go_at_call 68; exact equal17_left (b := true) _ _ HR1.out HR2.out (by simp [HX.out])))
          go_wp2_with fail
          go_roundw
          case rel => exact ⟨k + 1, by omega, by go_num, all_succ HZ.out (by rw [HXE.out, HYE.out]; exact HX.out), by first | exact ⟨_, rfl⟩ | exact ex_drewN⟩
          case measure => simp [intOf]; omega
        · have HX := Lib.hid hxy
          clear hxy
          go_wp2_with fail
          go_quiet ((go_at_call 68; exact equal17_left (b := false) _ _ HR1.out HR2.out (by simp [HX.out])))
          go_wp2_with fail
          go_ret
          exact ⟨ret_bool (by simpa using HN.out HX.out), by first | exact below_drewN HBW.out _ | exact below_drewN (below_drewN HBW.out _) _⟩
      · obtain rfl : k = A.length := by omega
        go_wp2_with fail
        go_ret
        exact ⟨ret_bool (by simpa using getD_ext HL.out HZ.out), below_drewN HBW.out _⟩
  · have d1 : ((A.length : Int) != (B.length : Int)) = true := by simp; omega
    have d2 : (A.length != B.length) = true := by simp; omega
    have HL := Lib.hid hl
    clear hl
    go_enter Try.func27, Try.ntmps27
    go_wp2_with fail
    go_ret
    exact ⟨ret_bool (by simpa using fun e => HL.out (by rw [e])), HBW.out⟩
end Go.Proofs
