/- As Inv: slots at any destinations; one operation at the end that waits for all others. -/
import Derived.Test.YtnhoiompdjabbaaInv
namespace Go.Proofs

/-- The frame but for the slots dm 0, .., dm (N-1). -/
structure SameM (a0 : Act) (dm : Nat → Nat) (N : Nat) (a : Act) : Prop where
  size : a.tmps.size = a0.tmps.size
  defers : a.defers = a0.defers
  out : ∀ t, (∀ i, i < N → dm i ≠ t) → a.tmps.getD t undef = a0.tmps.getD t undef
theorem SameM.refl (a0 : Act) (dm : Nat → Nat) (N : Nat) : SameM a0 dm N a0 := ⟨rfl, rfl, fun _ _ => rfl⟩
theorem SameM.put {a0 a : Act} {dm : Nat → Nat} {N i : Nat} (h : SameM a0 dm N a) (hi : i < N) (v : Value) : SameM a0 dm N (a.put (some (dm i)) v) :=
  ⟨by simpa [Act.put] using h.size, h.defers, fun t ht => by rw [← h.out t ht, put_getD_ne _ _ _ _ (ht i hi)]⟩

/-- Every edge leads back; each of the first N operations has a successor up to N. -/
structure Tailed1 (ops : Array Oper) (N : Nat) : Prop where
  size : ops.size = N + 1
  lex : ∀ (i : Nat) (o : Oper), ops[i]? = some o → ∀ e ∈ o.after.toList, e.on < i
  succ : ∀ i, i < N → ∃ (j : Nat) (o : Oper), i < j ∧ j ≤ N ∧ ops[j]? = some o ∧ ∃ e ∈ o.after.toList, e.on = i ∧ Region.binds .any e = true

def tailed1B (ops : Array Oper) (N : Nat) : Bool :=
  (ops.size == N + 1) && (List.range ops.size).all (fun i => match ops[i]? with | some o => o.after.toList.all fun e => decide (e.on < i) | none => true) &&
  (List.range N).all (fun i => (List.range (N + 1)).any fun j => decide (i < j) && (match ops[j]? with | some o => o.after.toList.any fun e => (e.on == i) && Region.binds .any e | none => false))

theorem tailed1_of {ops : Array Oper} {N : Nat} (h : tailed1B ops N = true) : Tailed1 ops N := by
  unfold tailed1B at h
  simp only [Bool.and_eq_true] at h
  obtain ⟨⟨h1, h2⟩, h3⟩ := h
  refine ⟨by simpa using h1, fun i o ho e he => ?_, fun i hi => ?_⟩
  · rw [List.all_eq_true] at h2
    have hi : i < ops.size := (Array.getElem?_eq_some_iff.1 ho).1
    have := h2 i (by simpa using hi)
    rw [ho] at this
    rw [List.all_eq_true] at this
    simpa using this e he
  · rw [List.all_eq_true] at h3
    have := h3 i (by simpa using hi)
    rw [List.any_eq_true] at this
    obtain ⟨j, hj, hjj⟩ := this
    rw [Bool.and_eq_true] at hjj
    obtain ⟨hij, hm⟩ := hjj
    cases ho : ops[j]? with
    | none => rw [ho] at hm; cases hm
    | some o =>
      rw [ho] at hm
      rw [List.any_eq_true] at hm
      obtain ⟨e, he, hee⟩ := hm
      rw [Bool.and_eq_true] at hee
      exact ⟨j, o, by simpa using hij, by simp at hj; omega, ho, e, he, by simpa using hee.1, hee.2⟩

section
variable {F : Fence} {n : Nat} {P : Program} {ops : Array Oper} {Q : Exit → Act → World → Prop}

theorem Tailed1.before {N : Nat} (ht : Tailed1 ops N) {listed : Array Bool} (hc : Closed ops listed) {o : Oper} (ho : ops[N]? = some o) (hp : ∀ e ∈ o.after.toList, Region.binds .any e = true → listed.getD e.on false = true) :
    ∀ k i, i < N → N - i ≤ k → listed.getD i false = true := by
  intro k
  induction k with
  | zero => intro i hi hk; omega
  | succ k ih =>
    intro i hi hk
    obtain ⟨j, oj, hij, hjN, hoj, e, he, rfl, hb⟩ := ht.succ i hi
    rcases Nat.lt_or_ge j N with h | h
    · exact hc j oj hoj (ih j h (by omega)) e he hb
    · have : j = N := by omega
      subst this
      rw [ho] at hoj
      cases hoj
      exact hp e he hb

theorem wpIn_region_one {id : Nat} {a0 : Act} {w : World} (hm : P.follows .mixedOrders = true) (dm : Nat → Nat) (N : Nat) (ht : Tailed1 ops N) (S : World → Prop) (Φ : Nat → Value → World → Prop) (G : World → World → Prop)
    (hdm : ∀ i j, i < N → j < N → dm i = dm j → i = j)
    (hΦ : ∀ i v w w', G w w' → Φ i v w → Φ i v w')
    (hsz : ∀ i, i < N → dm i < a0.tmps.size) (h0 : S w.drew)
    (hop : ∀ (i : Nat) (o : Oper) (a : Act) (w : World), i < N → ops[i]? = some o → S w → SameM a0 dm N a → (∀ e ∈ o.after.toList, Region.binds .any e = true → Φ e.on (a.tmps.getD (dm e.on) undef) w) →
      o.guard = none ∧ o.dst = some (dm i) ∧ o.wpIn F n P a w (fun a' w' => ∃ v, a' = a.put (some (dm i)) v ∧ S w' ∧ G w w' ∧ Φ i v w') Q)
    (hend : ∀ (a : Act) (w : World), S w → SameM a0 dm N a → (∀ i, i < N → Φ i (a.tmps.getD (dm i) undef) w) →
      wpOpIn F n P ops Q N (fun a' w' => Q .normal a' w') a w) :
    (Code.region id ops true).wpIn F n P Q a0 w := by
  refine wpIn_region_any hm ?_
  have hsize := ht.size
  refine wpAnyIn_inv (fun listed a w => Closed ops listed ∧
      ((listed.getD N false = false ∧ S w ∧ SameM a0 dm N a ∧ ∀ i, i < N → listed.getD i false = true → Φ i (a.tmps.getD (dm i) undef) w) ∨
       (listed.getD N false = true ∧ Q .normal a w))) ?_ ?_ ops.size _ a0 _ (by simp) ?_ ⟨fun i o ho h => ?_, .inl ⟨?_, h0, SameM.refl _ _ _, fun i hi h => ?_⟩⟩
  · rintro listed a w i hls ⟨hcl, hI⟩ hi
    obtain ⟨h1, h2, o, ho, hpre⟩ := ready_mem hi
    rw [getD_true_false (by omega)] at h2
    have hcl' : Closed ops (listed.setIfInBounds i true) := fun j oj hoj hl e he hb => by
      rw [getD_set_listed (by omega)] at hl ⊢
      by_cases eij : i = j
      · subst eij
        rw [ho] at hoj; cases hoj
        have := hpre e he hb
        split
        · rfl
        · exact this
      · rw [if_neg eij] at hl
        have := hcl j oj hoj hl e he hb
        split
        · rfl
        · exact this
    have hsetD : ∀ j, (listed.setIfInBounds i true).getD j false = if i = j then true else listed.getD j false := fun j => getD_set_listed (by omega)
    rcases hI with ⟨hN, hS, hsame, hsl⟩ | ⟨hN, hQ⟩
    · rcases Nat.lt_or_ge i N with hiN | hiN
      · obtain ⟨hg, hd, hwp⟩ := hop i o a w hiN ho hS hsame (fun e he hb => by
          have hl := hpre e he hb
          have hlt := ht.lex i o ho e he
          exact hsl e.on (by omega) hl)
        unfold wpOpIn
        rw [ho]
        simp only [Region.wanted, hg, if_true]
        refine Oper.wpIn_mono (fun a' w' h => ?_) hwp
        obtain ⟨v, rfl, hS', hG, hv⟩ := h
        refine ⟨hcl', .inl ⟨by rw [hsetD, if_neg (by omega)]; exact hN, hS', hsame.put hiN v, fun j hj hl => ?_⟩⟩
        by_cases e : i = j
        · subst e
          rw [put_getD_same _ _ _ (by rw [hsame.size]; exact hsz i hj)]
          exact hv
        · rw [put_getD_ne _ _ _ _ (fun h => e (hdm i j hiN hj h))]
          rw [hsetD, if_neg e] at hl
          exact hΦ j _ _ _ hG (hsl j hj hl)
      · have hi2 : i = N := by omega
        subst hi2
        have hall := ht.before hcl ho hpre
        refine wpOpIn_mono (fun a' w' h => ?_) (hend a w hS hsame (fun j hj => hsl j hj (hall _ j hj (Nat.le_refl _))))
        exact ⟨hcl', .inr ⟨by rw [hsetD, if_pos rfl], h⟩⟩
    · rcases Nat.lt_or_ge i N with hiN | hiN
      · obtain ⟨oN, hoN⟩ : ∃ o, ops[N]? = some o := ⟨ops[N]'(by omega), Array.getElem?_eq_getElem (by omega)⟩
        have := ht.before hcl hoN (hcl N oN hoN hN) _ i hiN (Nat.le_refl _)
        rw [h2] at this; cases this
      · have hi2 : i = N := by omega
        subst hi2
        rw [h2] at hN; cases hN
  · rintro listed a w hls ⟨hcl, hI⟩ hr
    have hready : ∀ i, i < ops.size → listed.getD i false = true := by
      intro i
      induction i using Nat.strongRecOn with
      | _ i ih =>
        intro hi
        rcases hl : listed.getD i false with _ | _
        · have hmem : i ∈ Region.ready .any ops listed := by
            simp only [Region.ready, List.mem_filter, List.mem_range, Bool.and_eq_true, Bool.not_eq_true']
            refine ⟨hi, by rw [getD_true_false (by omega)]; exact hl, ?_⟩
            rw [Array.getElem?_eq_getElem hi]
            simp only [Option.map_some, Option.getD_some]
            rw [Array.all_eq_true_iff_forall_mem]
            intro e he
            have hlt := ht.lex i _ (Array.getElem?_eq_getElem hi) e (by simpa using he)
            simp [ih e.on hlt (by omega)]
          rw [hr] at hmem; cases hmem
        · rfl
    rcases hI with ⟨hN, _⟩ | ⟨_, hQ⟩
    · rw [hready N (by omega)] at hN; cases hN
    · exact hQ
  · simp
  · have : (Array.replicate ops.size false).getD i false = false := by
      simp only [Array.getD_eq_getD_getElem?, Array.getElem?_replicate]; split <;> rfl
    rw [this] at h; cases h
  · simp only [Array.getD_eq_getD_getElem?, Array.getElem?_replicate]; split <;> rfl
  · have : (Array.replicate ops.size false).getD i false = false := by
      simp only [Array.getD_eq_getD_getElem?, Array.getElem?_replicate]; split <;> rfl
    rw [this] at h; cases h
end
end Go.Proofs
