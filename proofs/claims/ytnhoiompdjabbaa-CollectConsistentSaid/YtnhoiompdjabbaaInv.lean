/- A region that draws its order, by an invariant on its slots: each operation is shown once, whatever order the region is run in. Fenced walk. -/
import Derived.OrdersIn
import Derived.TacticsIn
import Derived.Deep.RegionHeld
namespace Go.Proofs

section
variable {F : Fence} {n : Nat} {P : Program} {ops : Array Oper} {Q : Exit → Act → World → Prop} {md : Region.Mode}

theorem count_set : ∀ (l : List Bool) (i : Nat), l[i]? = some false → (l.set i true).count false + 1 = l.count false
  | [], i, h => by simp at h
  | b :: l, 0, h => by
    simp at h
    subst h
    simp
  | b :: l, i + 1, h => by
    have ih := count_set l i (by simpa using h)
    simp only [List.set_cons_succ, List.count_cons]
    omega

theorem ready_mem {listed : Array Bool} {i : Nat} (h : i ∈ Region.ready md ops listed) : i < ops.size ∧ listed.getD i true = false ∧
    ∃ o, ops[i]? = some o ∧ ∀ e ∈ o.after.toList, Region.binds md e = true → listed.getD e.on false = true := by
  simp only [Region.ready, List.mem_filter, List.mem_range, Bool.and_eq_true, Bool.not_eq_true'] at h
  obtain ⟨h1, h2, h3⟩ := h
  refine ⟨h1, h2, ops[i], Array.getElem?_eq_getElem h1, fun e he hb => ?_⟩
  rw [Array.getElem?_eq_getElem h1] at h3
  simp only [Option.map_some, Option.getD_some] at h3
  rw [Array.all_eq_true_iff_forall_mem] at h3
  have := h3 e (by simpa using he)
  simpa [hb] using this

theorem wpAnyIn_inv (I : Array Bool → Act → World → Prop)
    (hstep : ∀ listed a w i, listed.size = ops.size → I listed a w → i ∈ Region.ready md ops listed → wpOpIn F n P ops Q i (I (listed.setIfInBounds i true)) a w)
    (hend : ∀ listed a w, listed.size = ops.size → I listed a w → Region.ready md ops listed = [] → Q .normal a w) :
    ∀ (fuel : Nat) (listed : Array Bool) (a : Act) (w : World), listed.size = ops.size → listed.toList.count false ≤ fuel → I listed a w → wpAnyIn F n P md ops Q fuel listed a w := by
  intro fuel
  induction fuel with
  | zero =>
    intro listed a w hs hc hI
    have hr : Region.ready md ops listed = [] := by
      rw [List.eq_nil_iff_forall_not_mem]
      intro i hi
      obtain ⟨h1, h2, _⟩ := ready_mem hi
      have hlt : i < listed.size := by omega
      have hf : listed[i] = false := by simpa [Array.getD, hlt] using h2
      have : false ∈ listed.toList := by rw [← hf]; simp
      have := List.count_pos_iff.2 this
      omega
    exact ⟨hr, hend _ _ _ hs hI hr⟩
  | succ fuel ih =>
    intro listed a w hs hc hI
    refine ⟨hend _ _ _ hs hI, fun i hi => ?_⟩
    obtain ⟨h1, h2, _⟩ := ready_mem hi
    have hlt : i < listed.size := by omega
    have hf : listed.toList[i]? = some false := by
      have : listed[i] = false := by simpa [Array.getD, hlt] using h2
      simp [hlt, this]
    have hcs := count_set listed.toList i hf
    refine wpOpIn_mono (fun a' w' h' => ih _ a' w' (by simpa using hs) ?_ h') (hstep listed a w i hs hI hi)
    rw [Array.toList_setIfInBounds]
    omega

/-- The frame but for the slots lo, lo+1, .., lo+N-1. -/
structure Same (a0 : Act) (lo N : Nat) (a : Act) : Prop where
  size : a.tmps.size = a0.tmps.size
  defers : a.defers = a0.defers
  out : ∀ t, t < lo ∨ lo + N ≤ t → a.tmps.getD t undef = a0.tmps.getD t undef

theorem Same.refl (a0 : Act) (lo N : Nat) : Same a0 lo N a0 := ⟨rfl, rfl, fun _ _ => rfl⟩
theorem Same.put {a0 a : Act} {lo N i : Nat} (h : Same a0 lo N a) (hi : i < N) (v : Value) : Same a0 lo N (a.put (some (lo + i)) v) :=
  ⟨by simpa [Act.put] using h.size, h.defers, fun t ht => by
    rw [← h.out t ht]
    have hne : lo + i ≠ t := by omega
    simp only [Act.put, Array.getD_eq_getD_getElem?]
    rw [Array.getElem?_setIfInBounds_ne hne]⟩

theorem put_getD_same (a : Act) (t : Nat) (v : Value) (h : t < a.tmps.size) : (a.put (some t) v).tmps.getD t undef = v := by
  simp [Act.put, Array.getD_eq_getD_getElem?, h]
theorem put_getD_ne (a : Act) (t u : Nat) (v : Value) (h : t ≠ u) : (a.put (some t) v).tmps.getD u undef = a.tmps.getD u undef := by
  simp only [Act.put, Array.getD_eq_getD_getElem?]
  rw [Array.getElem?_setIfInBounds_ne h]

/-- EACH OPERATION WRITES ITS OWN SLOT lo + i, WITH A VALUE OF WHICH Φ i HOLDS; what holds of a slot goes on holding (hΦ); S: what the operations need of the world. -/
theorem wpIn_region_slots {id : Nat} {a0 : Act} {w : World} (hm : P.follows .mixedOrders = true) (lo : Nat) (S : World → Prop) (Φ : Nat → Value → World → Prop) (G : World → World → Prop)
    (hΦ : ∀ i v w w', G w w' → Φ i v w → Φ i v w')
    (hsz : lo + ops.size ≤ a0.tmps.size) (h0 : S w.drew)
    (hop : ∀ (i : Nat) (o : Oper) (a : Act) (w : World), i < ops.size → ops[i]? = some o → S w → Same a0 lo ops.size a → (∀ e ∈ o.after.toList, Region.binds .any e = true → Φ e.on (a.tmps.getD (lo + e.on) undef) w) →
      o.guard = none ∧ o.dst = some (lo + i) ∧ o.wpIn F n P a w (fun a' w' => ∃ v, a' = a.put (some (lo + i)) v ∧ S w' ∧ G w w' ∧ Φ i v w') Q)
    (hend : ∀ (a : Act) (w : World), S w → Same a0 lo ops.size a → (∀ i, i < ops.size → Φ i (a.tmps.getD (lo + i) undef) w) → Q .normal a w)
    (hall : ∀ listed : Array Bool, listed.size = ops.size → Region.ready .any ops listed = [] → ∀ i, i < ops.size → listed.getD i false = true) :
    (Code.region id ops true).wpIn F n P Q a0 w := by
  refine wpIn_region_any hm ?_
  refine wpAnyIn_inv (fun listed a w => S w ∧ Same a0 lo ops.size a ∧ ∀ i, i < ops.size → listed.getD i false = true → Φ i (a.tmps.getD (lo + i) undef) w) ?_ ?_ ops.size _ a0 _ (by simp) ?_ ⟨h0, Same.refl _ _ _, fun i hi h => ?_⟩
  · rintro listed a w i hls ⟨hS, hsame, hsl⟩ hi
    obtain ⟨h1, h2, o, ho, hpre⟩ := ready_mem hi
    obtain ⟨hg, hd, hwp⟩ := hop i o a w h1 ho hS hsame (fun e he hb => by
      have hl := hpre e he hb
      have hlt : e.on < ops.size := by
        rcases Nat.lt_or_ge e.on ops.size with h | h
        · exact h
        · have : listed.getD e.on false = false := by
            simp [Array.getD_eq_getD_getElem?, Array.getElem?_eq_none (show listed.size ≤ e.on by omega)]
          rw [this] at hl; cases hl
      exact hsl e.on hlt hl)
    unfold wpOpIn
    rw [ho]
    simp only [Region.wanted, hg, if_true]
    refine Oper.wpIn_mono (fun a' w' h => ?_) hwp
    obtain ⟨v, rfl, hS', hG, hv⟩ := h
    refine ⟨hS', hsame.put h1 v, fun j hj hl => ?_⟩
    by_cases e : i = j
    · subst e
      rw [put_getD_same _ _ _ (by rw [hsame.size]; omega)]
      exact hv
    · rw [put_getD_ne _ _ _ _ (by omega)]
      refine hΦ j _ _ _ hG (hsl j hj ?_)
      simpa [Array.getD_eq_getD_getElem?, Array.getElem?_setIfInBounds_ne e] using hl
  · rintro listed a w hls ⟨hS, hsame, hsl⟩ hr
    exact hend a w hS hsame (fun i hi => hsl i hi (hall listed hls hr i hi))
  · simp
  · simp [Array.getD_eq_getD_getElem?, hi] at h

/-- Every edge leads back; each of the first N operations has a successor up to N; operation N+1 waits for N. -/
structure Tailed (ops : Array Oper) (N : Nat) : Prop where
  size : ops.size = N + 2
  lex : ∀ (i : Nat) (o : Oper), ops[i]? = some o → ∀ e ∈ o.after.toList, e.on < i
  succ : ∀ i, i < N → ∃ (j : Nat) (o : Oper), i < j ∧ j ≤ N ∧ ops[j]? = some o ∧ ∃ e ∈ o.after.toList, e.on = i ∧ Region.binds .any e = true
  last : ∃ o : Oper, ops[N + 1]? = some o ∧ ∃ e ∈ o.after.toList, e.on = N ∧ Region.binds .any e = true

def tailedB (ops : Array Oper) (N : Nat) : Bool :=
  (ops.size == N + 2) && (List.range ops.size).all (fun i => match ops[i]? with | some o => o.after.toList.all fun e => decide (e.on < i) | none => true) &&
  (List.range N).all (fun i => (List.range (N + 1)).any fun j => decide (i < j) && (match ops[j]? with | some o => o.after.toList.any fun e => (e.on == i) && Region.binds .any e | none => false)) &&
  (match ops[N + 1]? with | some o => o.after.toList.any fun e => (e.on == N) && Region.binds .any e | none => false)

theorem tailed_of {ops : Array Oper} {N : Nat} (h : tailedB ops N = true) : Tailed ops N := by
  unfold tailedB at h
  simp only [Bool.and_eq_true] at h
  obtain ⟨⟨⟨h1, h2⟩, h3⟩, h4⟩ := h
  refine ⟨by simpa using h1, fun i o ho e he => ?_, fun i hi => ?_, ?_⟩
  · rw [List.all_eq_true] at h2
    have hi : i < ops.size := (Array.getElem?_eq_some_iff.1 ho).1
    have := h2 i (by simpa using hi)
    rw [ho] at this
    rw [List.all_eq_true] at this
    simpa using this e he
  · rw [List.all_eq_true] at h3
    have := h3 i (by simpa using hi)
    rw [List.any_eq_true] at this
    obtain ⟨j, hj, hjj⟩ := this
    rw [Bool.and_eq_true] at hjj
    obtain ⟨hij, hm⟩ := hjj
    cases ho : ops[j]? with
    | none => rw [ho] at hm; cases hm
    | some o =>
      rw [ho] at hm
      rw [List.any_eq_true] at hm
      obtain ⟨e, he, hee⟩ := hm
      rw [Bool.and_eq_true] at hee
      exact ⟨j, o, by simpa using hij, by simp at hj; omega, ho, e, he, by simpa using hee.1, hee.2⟩
  · cases ho : ops[N + 1]? with
    | none => rw [ho] at h4; cases h4
    | some o =>
      rw [ho] at h4
      rw [List.any_eq_true] at h4
      obtain ⟨e, he, hee⟩ := h4
      rw [Bool.and_eq_true] at hee
      exact ⟨o, rfl, e, he, by simpa using hee.1, hee.2⟩

/-- listed is closed downwards -/
def Closed (ops : Array Oper) (listed : Array Bool) : Prop := ∀ (i : Nat) (o : Oper), ops[i]? = some o → listed.getD i false = true → ∀ e ∈ o.after.toList, Region.binds .any e = true → listed.getD e.on false = true

theorem getD_set_listed {listed : Array Bool} {i j : Nat} (hi : i < listed.size) : (listed.setIfInBounds i true).getD j false = if i = j then true else listed.getD j false := by
  simp only [Array.getD_eq_getD_getElem?]
  by_cases e : i = j
  · subst e; simp [hi]
  · rw [Array.getElem?_setIfInBounds_ne e, if_neg e]

theorem getD_true_false {listed : Array Bool} {i : Nat} (hi : i < listed.size) : listed.getD i true = listed.getD i false := by
  simp [Array.getD, hi]

section
variable {F : Fence} {n : Nat} {P : Program} {ops : Array Oper} {Q : Exit → Act → World → Prop}

theorem Tailed.before {N : Nat} (ht : Tailed ops N) {listed : Array Bool} (hc : Closed ops listed) {o : Oper} (ho : ops[N]? = some o) (hp : ∀ e ∈ o.after.toList, Region.binds .any e = true → listed.getD e.on false = true) :
    ∀ k i, i < N → N - i ≤ k → listed.getD i false = true := by
  intro k
  induction k with
  | zero => intro i hi hk; omega
  | succ k ih =>
    intro i hi hk
    obtain ⟨j, oj, hij, hjN, hoj, e, he, rfl, hb⟩ := ht.succ i hi
    rcases Nat.lt_or_ge j N with h | h
    · exact hc j oj hoj (ih j h (by omega)) e he hb
    · have : j = N := by omega
      subst this
      rw [ho] at hoj
      cases hoj
      exact hp e he hb

theorem wpIn_region_tail {id : Nat} {a0 : Act} {w : World} (hm : P.follows .mixedOrders = true) (lo N : Nat) (ht : Tailed ops N) (S : World → Prop) (Φ : Nat → Value → World → Prop) (G : World → World → Prop)
    (hΦ : ∀ i v w w', G w w' → Φ i v w → Φ i v w')
    (hsz : lo + N ≤ a0.tmps.size) (h0 : S w.drew)
    (hop : ∀ (i : Nat) (o : Oper) (a : Act) (w : World), i < N → ops[i]? = some o → S w → Same a0 lo N a → (∀ e ∈ o.after.toList, Region.binds .any e = true → Φ e.on (a.tmps.getD (lo + e.on) undef) w) →
      o.guard = none ∧ o.dst = some (lo + i) ∧ o.wpIn F n P a w (fun a' w' => ∃ v, a' = a.put (some (lo + i)) v ∧ S w' ∧ G w w' ∧ Φ i v w') Q)
    (hend : ∀ (a : Act) (w : World), S w → Same a0 lo N a → (∀ i, i < N → Φ i (a.tmps.getD (lo + i) undef) w) →
      wpOpIn F n P ops Q N (fun a' w' => wpOpIn F n P ops Q (N + 1) (fun a'' w'' => Q .normal a'' w'') a' w') a w) :
    (Code.region id ops true).wpIn F n P Q a0 w := by
  refine wpIn_region_any hm ?_
  have hsize := ht.size
  refine wpAnyIn_inv (fun listed a w => Closed ops listed ∧
      ((listed.getD N false = false ∧ listed.getD (N + 1) false = false ∧ S w ∧ Same a0 lo N a ∧ ∀ i, i < N → listed.getD i false = true → Φ i (a.tmps.getD (lo + i) undef) w) ∨
       (listed.getD N false = true ∧ listed.getD (N + 1) false = false ∧ wpOpIn F n P ops Q (N + 1) (fun a'' w'' => Q .normal a'' w'') a w) ∨
       (listed.getD (N + 1) false = true ∧ Q .normal a w))) ?_ ?_ ops.size _ a0 _ (by simp) ?_ ⟨fun i o ho h => ?_, .inl ⟨?_, ?_, h0, Same.refl _ _ _, fun i hi h => ?_⟩⟩
  · rintro listed a w i hls ⟨hcl, hI⟩ hi
    obtain ⟨h1, h2, o, ho, hpre⟩ := ready_mem hi
    rw [getD_true_false (by omega)] at h2
    have hcl' : Closed ops (listed.setIfInBounds i true) := fun j oj hoj hl e he hb => by
      rw [getD_set_listed (by omega)] at hl ⊢
      by_cases eij : i = j
      · subst eij
        rw [ho] at hoj; cases hoj
        have := hpre e he hb
        split
        · rfl
        · exact this
      · rw [if_neg eij] at hl
        have := hcl j oj hoj hl e he hb
        split
        · rfl
        · exact this
    have hsetD : ∀ j, (listed.setIfInBounds i true).getD j false = if i = j then true else listed.getD j false := fun j => getD_set_listed (by omega)
    rcases hI with ⟨hN, hN1, hS, hsame, hsl⟩ | ⟨hN, hN1, hK⟩ | ⟨hN1, hQ⟩
    · rcases Nat.lt_or_ge i N with hiN | hiN
      · obtain ⟨hg, hd, hwp⟩ := hop i o a w hiN ho hS hsame (fun e he hb => by
          have hl := hpre e he hb
          have hlt := ht.lex i o ho e he
          exact hsl e.on (by omega) hl)
        unfold wpOpIn
        rw [ho]
        simp only [Region.wanted, hg, if_true]
        refine Oper.wpIn_mono (fun a' w' h => ?_) hwp
        obtain ⟨v, rfl, hS', hG, hv⟩ := h
        refine ⟨hcl', .inl ⟨by rw [hsetD, if_neg (by omega)]; exact hN, by rw [hsetD, if_neg (by omega)]; exact hN1, hS', hsame.put hiN v, fun j hj hl => ?_⟩⟩
        by_cases e : i = j
        · subst e
          rw [put_getD_same _ _ _ (by rw [hsame.size]; omega)]
          exact hv
        · rw [put_getD_ne _ _ _ _ (by omega)]
          rw [hsetD, if_neg e] at hl
          exact hΦ j _ _ _ hG (hsl j hj hl)
      · have hi2 : i = N ∨ i = N + 1 := by omega
        rcases hi2 with rfl | rfl
        · have hall := ht.before hcl ho hpre
          refine wpOpIn_mono (fun a' w' h => ?_) (hend a w hS hsame (fun j hj => hsl j hj (hall _ j hj (Nat.le_refl _))))
          exact ⟨hcl', .inr (.inl ⟨by rw [hsetD, if_pos rfl], by rw [hsetD, if_neg (by omega)]; exact hN1, h⟩)⟩
        · obtain ⟨o', ho', e, he, heN, hb⟩ := ht.last
          rw [ho] at ho'; cases ho'
          have := hpre e he hb
          rw [heN, hN] at this
          cases this
    · rcases Nat.lt_or_ge i N with hiN | hiN
      · have hoN : ∃ o, ops[N]? = some o := ⟨ops[N]'(by omega), Array.getElem?_eq_getElem (by omega)⟩
        obtain ⟨oN, hoN⟩ := hoN
        have := ht.before hcl hoN (hcl N oN hoN hN) _ i hiN (Nat.le_refl _)
        rw [h2] at this; cases this
      · have hi2 : i = N ∨ i = N + 1 := by omega
        rcases hi2 with rfl | rfl
        · rw [h2] at hN; cases hN
        · refine wpOpIn_mono (fun a' w' h => ?_) hK
          exact ⟨hcl', .inr (.inr ⟨by rw [hsetD, if_pos rfl], h⟩)⟩
    · have hN : listed.getD N false = true := by
        obtain ⟨o', ho', e, he, heN, hb⟩ := ht.last
        have := hcl (N + 1) o' ho' hN1 e he hb
        rwa [heN] at this
      rcases Nat.lt_or_ge i N with hiN | hiN
      · have hoN : ∃ o, ops[N]? = some o := ⟨ops[N]'(by omega), Array.getElem?_eq_getElem (by omega)⟩
        obtain ⟨oN, hoN⟩ := hoN
        have := ht.before hcl hoN (hcl N oN hoN hN) _ i hiN (Nat.le_refl _)
        rw [h2] at this; cases this
      · have hi2 : i = N ∨ i = N + 1 := by omega
        rcases hi2 with rfl | rfl
        · rw [h2] at hN; cases hN
        · rw [h2] at hN1; cases hN1
  · rintro listed a w hls ⟨hcl, hI⟩ hr
    have hready : ∀ i, i < ops.size → listed.getD i false = true := by
      intro i
      induction i using Nat.strongRecOn with
      | _ i ih =>
        intro hi
        rcases hl : listed.getD i false with _ | _
        · have hmem : i ∈ Region.ready .any ops listed := by
            simp only [Region.ready, List.mem_filter, List.mem_range, Bool.and_eq_true, Bool.not_eq_true']
            refine ⟨hi, by rw [getD_true_false (by omega)]; exact hl, ?_⟩
            rw [Array.getElem?_eq_getElem hi]
            simp only [Option.map_some, Option.getD_some]
            rw [Array.all_eq_true_iff_forall_mem]
            intro e he
            have hlt := ht.lex i _ (Array.getElem?_eq_getElem hi) e (by simpa using he)
            simp [ih e.on hlt (by omega)]
          rw [hr] at hmem; cases hmem
        · rfl
    rcases hI with ⟨hN, _⟩ | ⟨_, hN1, _⟩ | ⟨_, hQ⟩
    · rw [hready N (by omega)] at hN; cases hN
    · rw [hready (N + 1) (by omega)] at hN1; cases hN1
    · exact hQ
  · simp
  · have : (Array.replicate ops.size false).getD i false = false := by
      simp only [Array.getD_eq_getD_getElem?, Array.getElem?_replicate]; split <;> rfl
    rw [this] at h; cases h
  · simp only [Array.getD_eq_getD_getElem?, Array.getElem?_replicate]; split <;> rfl
  · simp only [Array.getD_eq_getD_getElem?, Array.getElem?_replicate]; split <;> rfl
  · have : (Array.replicate ops.size false).getD i false = false := by
      simp only [Array.getD_eq_getD_getElem?, Array.getElem?_replicate]; split <;> rfl
    rw [this] at h; cases h
end
end
end Go.Proofs
