/- As Inv: slots at any destinations; one operation at the end that waits for all others; As Inv2; the invariant also knows which operations are done; Operations of copied; a frame behind a region with slots at any places; The contract of collect.copied; The contracts of collect.New, Consistent, and of the method Pc. -/
import Derived.Test.YtffkmchmakfcpaaOrCS14
import Derived.Test.YtffkmchmakfcpaaOrCS17
import Derived.Maps.AppendAt
import Derived.Deep.AppendLies
import Derived.Test.YtffkmchmakfcpaaOrCS16
namespace Go.Proofs
/-- The frame but for the slots dm 0, .., dm (N-1). -/
structure SameM (a0 : Act) (dm : Nat → Nat) (N : Nat) (a : Act) : Prop where
  size : a.tmps.size = a0.tmps.size
  defers : a.defers = a0.defers
  out : ∀ t, (∀ i, i < N → dm i ≠ t) → a.tmps.getD t undef = a0.tmps.getD t undef
theorem SameM.refl (a0 : Act) (dm : Nat → Nat) (N : Nat) : SameM a0 dm N a0 := ⟨rfl, rfl, fun _ _ => rfl⟩
theorem SameM.put {a0 a : Act} {dm : Nat → Nat} {N i : Nat} (h : SameM a0 dm N a) (hi : i < N) (v : Value) : SameM a0 dm N (a.put (some (dm i)) v) :=
  ⟨by simpa [Act.put] using h.size, h.defers, fun t ht => by rw [← h.out t ht, put_getD_ne _ _ _ _ (ht i hi)]⟩
/-- Every edge leads back; each of the first N operations has a successor up to N. -/
structure Tailed1 (ops : Array Oper) (N : Nat) : Prop where
  size : ops.size = N + 1
  lex : ∀ (i : Nat) (o : Oper), ops[i]? = some o → ∀ e ∈ o.after.toList, e.on < i
  succ : ∀ i, i < N → ∃ (j : Nat) (o : Oper), i < j ∧ j ≤ N ∧ ops[j]? = some o ∧ ∃ e ∈ o.after.toList, e.on = i ∧ Region.binds .any e = true
def tailed1B (ops : Array Oper) (N : Nat) : Bool :=
  (ops.size == N + 1) && (List.range ops.size).all (fun i => match ops[i]? with | some o => o.after.toList.all fun e => decide (e.on < i) | none => true) &&
  (List.range N).all (fun i => (List.range (N + 1)).any fun j => decide (i < j) && (match ops[j]? with | some o => o.after.toList.any fun e => (e.on == i) && Region.binds .any e | none => false))
theorem tailed1_of {ops : Array Oper} {N : Nat} (h : tailed1B ops N = true) : Tailed1 ops N := by
  unfold tailed1B at h
  simp only [Bool.and_eq_true] at h
  obtain ⟨⟨h1, h2⟩, h3⟩ := h
  refine ⟨by simpa using h1, fun i o ho e he => ?_, fun i hi => ?_⟩
  · rw [List.all_eq_true] at h2
    have hi : i < ops.size := (Array.getElem?_eq_some_iff.1 ho).1
    have := h2 i (by simpa using hi)
    rw [ho] at this
    rw [List.all_eq_true] at this
    simpa using this e he
  · rw [List.all_eq_true] at h3
    have := h3 i (by simpa using hi)
    rw [List.any_eq_true] at this
    obtain ⟨j, hj, hjj⟩ := this
    rw [Bool.and_eq_true] at hjj
    obtain ⟨hij, hm⟩ := hjj
    cases ho : ops[j]? with
    | none => rw [ho] at hm; cases hm
    | some o =>
      rw [ho] at hm
      rw [List.any_eq_true] at hm
      obtain ⟨e, he, hee⟩ := hm
      rw [Bool.and_eq_true] at hee
      exact ⟨j, o, by simpa using hij, by simp at hj; omega, ho, e, he, by simpa using hee.1, hee.2⟩
section
variable {F : Fence} {n : Nat} {P : Program} {ops : Array Oper} {Q : Exit → Act → World → Prop}
theorem Tailed1.before {N : Nat} (ht : Tailed1 ops N) {listed : Array Bool} (hc : Closed ops listed) {o : Oper} (ho : ops[N]? = some o) (hp : ∀ e ∈ o.after.toList, Region.binds .any e = true → listed.getD e.on false = true) :
    ∀ k i, i < N → N - i ≤ k → listed.getD i false = true := by
  intro k
  induction k with
  | zero => intro i hi hk; omega
  | succ k ih =>
    intro i hi hk
    obtain ⟨j, oj, hij, hjN, hoj, e, he, rfl, hb⟩ := ht.succ i hi
    rcases Nat.lt_or_ge j N with h | h
    · exact hc j oj hoj (ih j h (by omega)) e he hb
    · have : j = N := by omega
      subst this
      rw [ho] at hoj
      cases hoj
      exact hp e he hb
theorem wpIn_region_one {id : Nat} {a0 : Act} {w : World} (hm : P.follows .mixedOrders = true) (dm : Nat → Nat) (N : Nat) (ht : Tailed1 ops N) (S : World → Prop) (Φ : Nat → Value → World → Prop) (G : World → World → Prop)
    (hdm : ∀ i j, i < N → j < N → dm i = dm j → i = j)
    (hΦ : ∀ i v w w', G w w' → Φ i v w → Φ i v w')
    (hsz : ∀ i, i < N → dm i < a0.tmps.size) (h0 : S w.drew)
    (hop : ∀ (i : Nat) (o : Oper) (a : Act) (w : World), i < N → ops[i]? = some o → S w → SameM a0 dm N a → (∀ e ∈ o.after.toList, Region.binds .any e = true → Φ e.on (a.tmps.getD (dm e.on) undef) w) →
      o.guard = none ∧ o.dst = some (dm i) ∧ o.wpIn F n P a w (fun a' w' => ∃ v, a' = a.put (some (dm i)) v ∧ S w' ∧ G w w' ∧ Φ i v w') Q)
    (hend : ∀ (a : Act) (w : World), S w → SameM a0 dm N a → (∀ i, i < N → Φ i (a.tmps.getD (dm i) undef) w) →
      wpOpIn F n P ops Q N (fun a' w' => Q .normal a' w') a w) :
    (Code.region id ops true).wpIn F n P Q a0 w := by
  refine wpIn_region_any hm ?_
  have hsize := ht.size
  refine wpAnyIn_inv (fun listed a w => Closed ops listed ∧
      ((listed.getD N false = false ∧ S w ∧ SameM a0 dm N a ∧ ∀ i, i < N → listed.getD i false = true → Φ i (a.tmps.getD (dm i) undef) w) ∨
       (listed.getD N false = true ∧ Q .normal a w))) ?_ ?_ ops.size _ a0 _ (by simp) ?_ ⟨fun i o ho h => ?_, .inl ⟨?_, h0, SameM.refl _ _ _, fun i hi h => ?_⟩⟩
  · rintro listed a w i hls ⟨hcl, hI⟩ hi
    obtain ⟨h1, h2, o, ho, hpre⟩ := ready_mem hi
    rw [getD_true_false (by omega)] at h2
    have hcl' : Closed ops (listed.setIfInBounds i true) := fun j oj hoj hl e he hb => by
      rw [getD_set_listed (by omega)] at hl ⊢
      by_cases eij : i = j
      · subst eij
        rw [ho] at hoj; cases hoj
        have := hpre e he hb
        split
        · rfl
        · exact this
      · rw [if_neg eij] at hl
        have := hcl j oj hoj hl e he hb
        split
        · rfl
        · exact this
    have hsetD : ∀ j, (listed.setIfInBounds i true).getD j false = if i = j then true else listed.getD j false := fun j => getD_set_listed (by omega)
    rcases hI with ⟨hN, hS, hsame, hsl⟩ | ⟨hN, hQ⟩
    · rcases Nat.lt_or_ge i N with hiN | hiN
      · obtain ⟨hg, hd, hwp⟩ := hop i o a w hiN ho hS hsame (fun e he hb => by
          have hl := hpre e he hb
          have hlt := ht.lex i o ho e he
          exact hsl e.on (by omega) hl)
        unfold wpOpIn
        rw [ho]
        simp only [Region.wanted, hg, if_true]
        refine Oper.wpIn_mono (fun a' w' h => ?_) hwp
        obtain ⟨v, rfl, hS', hG, hv⟩ := h
        refine ⟨hcl', .inl ⟨by rw [hsetD, if_neg (by omega)]; exact hN, hS', hsame.put hiN v, fun j hj hl => ?_⟩⟩
        by_cases e : i = j
        · subst e
          rw [put_getD_same _ _ _ (by rw [hsame.size]; exact hsz i hj)]
          exact hv
        · rw [put_getD_ne _ _ _ _ (fun h => e (hdm i j hiN hj h))]
          rw [hsetD, if_neg e] at hl
          exact hΦ j _ _ _ hG (hsl j hj hl)
      · have hi2 : i = N := by omega
        subst hi2
        have hall := ht.before hcl ho hpre
        refine wpOpIn_mono (fun a' w' h => ?_) (hend a w hS hsame (fun j hj => hsl j hj (hall _ j hj (Nat.le_refl _))))
        exact ⟨hcl', .inr ⟨by rw [hsetD, if_pos rfl], h⟩⟩
    · rcases Nat.lt_or_ge i N with hiN | hiN
      · obtain ⟨oN, hoN⟩ : ∃ o, ops[N]? = some o := ⟨ops[N]'(by omega), Array.getElem?_eq_getElem (by omega)⟩
        have := ht.before hcl hoN (hcl N oN hoN hN) _ i hiN (Nat.le_refl _)
        rw [h2] at this; cases this
      · have hi2 : i = N := by omega
        subst hi2
        rw [h2] at hN; cases hN
  · rintro listed a w hls ⟨hcl, hI⟩ hr
    have hready : ∀ i, i < ops.size → listed.getD i false = true := by
      intro i
      induction i using Nat.strongRecOn with
      | _ i ih =>
        intro hi
        rcases hl : listed.getD i false with _ | _
        · have hmem : i ∈ Region.ready .any ops listed := by
            simp only [Region.ready, List.mem_filter, List.mem_range, Bool.and_eq_true, Bool.not_eq_true']
            refine ⟨hi, by rw [getD_true_false (by omega)]; exact hl, ?_⟩
            rw [Array.getElem?_eq_getElem hi]
            simp only [Option.map_some, Option.getD_some]
            rw [Array.all_eq_true_iff_forall_mem]
            intro e he
            have hlt := ht.lex i _ (Array.getElem?_eq_getElem hi) e (by simpa using he)
            simp [ih e.on hlt (by omega)]
          rw [hr] at hmem; cases hmem
        · rfl
    rcases hI with ⟨hN, _⟩ | ⟨_, hQ⟩
    · rw [hready N (by omega)] at hN; cases hN
    · exact hQ
  · simp
  · have : (Array.replicate ops.size false).getD i false = false := by
      simp only [Array.getD_eq_getD_getElem?, Array.getElem?_replicate]; split <;> rfl
    rw [this] at h; cases h
  · simp only [Array.getD_eq_getD_getElem?, Array.getElem?_replicate]; split <;> rfl
  · have : (Array.replicate ops.size false).getD i false = false := by
      simp only [Array.getD_eq_getD_getElem?, Array.getElem?_replicate]; split <;> rfl
    rw [this] at h; cases h
end
end Go.Proofs
namespace Go.Proofs
section
variable {F : Fence} {n : Nat} {P : Program} {ops : Array Oper} {Q : Exit → Act → World → Prop}
theorem wpIn_region_ls {id : Nat} {a0 : Act} {w : World} (hm : P.follows .mixedOrders = true) (dm : Nat → Nat) (N : Nat) (ht : Tailed1 ops N) (S : (Nat → Bool) → World → Prop) (Φ : Nat → Value → World → Prop) (G : Nat → World → World → Prop)
    (hdm : ∀ i j, i < N → j < N → dm i = dm j → i = j)
    (hΦ : ∀ i j v w w', i < N → j < N → i ≠ j → G i w w' → Φ j v w → Φ j v w')
    (hsz : ∀ i, i < N → dm i < a0.tmps.size) (h0 : S (fun _ => false) w.drew)
    (hop : ∀ (ls : Nat → Bool) (i : Nat) (o : Oper) (a : Act) (w : World), i < N → ops[i]? = some o → S ls w → ls i = false → SameM a0 dm N a → (∀ e ∈ o.after.toList, Region.binds .any e = true → Φ e.on (a.tmps.getD (dm e.on) undef) w) →
      o.guard = none ∧ o.dst = some (dm i) ∧ o.wpIn F n P a w (fun a' w' => ∃ v, a' = a.put (some (dm i)) v ∧ S (fun j => if i = j then true else ls j) w' ∧ G i w w' ∧ Φ i v w') Q)
    (hend : ∀ (ls : Nat → Bool) (a : Act) (w : World), S ls w → (∀ i, i < N → ls i = true) → SameM a0 dm N a → (∀ i, i < N → Φ i (a.tmps.getD (dm i) undef) w) →
      wpOpIn F n P ops Q N (fun a' w' => Q .normal a' w') a w) :
    (Code.region id ops true).wpIn F n P Q a0 w := by
  refine wpIn_region_any hm ?_
  have hsize := ht.size
  refine wpAnyIn_inv (fun listed a w => Closed ops listed ∧
      ((listed.getD N false = false ∧ S (fun j => listed.getD j false) w ∧ SameM a0 dm N a ∧ ∀ i, i < N → listed.getD i false = true → Φ i (a.tmps.getD (dm i) undef) w) ∨
       (listed.getD N false = true ∧ Q .normal a w))) ?_ ?_ ops.size _ a0 _ (by simp) ?_ ⟨fun i o ho h => ?_, .inl ⟨?_, by rw [show (fun j => (Array.replicate ops.size false).getD j false) = (fun _ => false) from funext fun j => by simp only [Array.getD_eq_getD_getElem?, Array.getElem?_replicate]; split <;> rfl]; exact h0, SameM.refl _ _ _, fun i hi h => ?_⟩⟩
  · rintro listed a w i hls ⟨hcl, hI⟩ hi
    obtain ⟨h1, h2, o, ho, hpre⟩ := ready_mem hi
    rw [getD_true_false (by omega)] at h2
    have hcl' : Closed ops (listed.setIfInBounds i true) := fun j oj hoj hl e he hb => by
      rw [getD_set_listed (by omega)] at hl ⊢
      by_cases eij : i = j
      · subst eij
        rw [ho] at hoj; cases hoj
        have := hpre e he hb
        split
        · rfl
        · exact this
      · rw [if_neg eij] at hl
        have := hcl j oj hoj hl e he hb
        split
        · rfl
        · exact this
    have hsetD : ∀ j, (listed.setIfInBounds i true).getD j false = if i = j then true else listed.getD j false := fun j => getD_set_listed (by omega)
    rcases hI with ⟨hN, hS, hsame, hsl⟩ | ⟨hN, hQ⟩
    · rcases Nat.lt_or_ge i N with hiN | hiN
      · obtain ⟨hg, hd, hwp⟩ := hop _ i o a w hiN ho hS h2 hsame (fun e he hb => by
          have hl := hpre e he hb
          have hlt := ht.lex i o ho e he
          exact hsl e.on (by omega) hl)
        unfold wpOpIn
        rw [ho]
        simp only [Region.wanted, hg, if_true]
        refine Oper.wpIn_mono (fun a' w' h => ?_) hwp
        obtain ⟨v, rfl, hS', hG, hv⟩ := h
        refine ⟨hcl', .inl ⟨by rw [hsetD, if_neg (by omega)]; exact hN, by rw [show (fun j => (listed.setIfInBounds i true).getD j false) = (fun j => if i = j then true else listed.getD j false) from funext hsetD]; exact hS', hsame.put hiN v, fun j hj hl => ?_⟩⟩
        by_cases e : i = j
        · subst e
          rw [put_getD_same _ _ _ (by rw [hsame.size]; exact hsz i hj)]
          exact hv
        · rw [put_getD_ne _ _ _ _ (fun h => e (hdm i j hiN hj h))]
          rw [hsetD, if_neg e] at hl
          exact hΦ i j _ _ _ hiN hj e hG (hsl j hj hl)
      · have hi2 : i = N := by omega
        subst hi2
        have hall := ht.before hcl ho hpre
        refine wpOpIn_mono (fun a' w' h => ?_) (hend _ a w hS (fun j hj => hall _ j hj (Nat.le_refl _)) hsame (fun j hj => hsl j hj (hall _ j hj (Nat.le_refl _))))
        exact ⟨hcl', .inr ⟨by rw [hsetD, if_pos rfl], h⟩⟩
    · rcases Nat.lt_or_ge i N with hiN | hiN
      · obtain ⟨oN, hoN⟩ : ∃ o, ops[N]? = some o := ⟨ops[N]'(by omega), Array.getElem?_eq_getElem (by omega)⟩
        have := ht.before hcl hoN (hcl N oN hoN hN) _ i hiN (Nat.le_refl _)
        rw [h2] at this; cases this
      · have hi2 : i = N := by omega
        subst hi2
        rw [h2] at hN; cases hN
  · rintro listed a w hls ⟨hcl, hI⟩ hr
    have hready : ∀ i, i < ops.size → listed.getD i false = true := by
      intro i
      induction i using Nat.strongRecOn with
      | _ i ih =>
        intro hi
        rcases hl : listed.getD i false with _ | _
        · have hmem : i ∈ Region.ready .any ops listed := by
            simp only [Region.ready, List.mem_filter, List.mem_range, Bool.and_eq_true, Bool.not_eq_true']
            refine ⟨hi, by rw [getD_true_false (by omega)]; exact hl, ?_⟩
            rw [Array.getElem?_eq_getElem hi]
            simp only [Option.map_some, Option.getD_some]
            rw [Array.all_eq_true_iff_forall_mem]
            intro e he
            have hlt := ht.lex i _ (Array.getElem?_eq_getElem hi) e (by simpa using he)
            simp [ih e.on hlt (by omega)]
          rw [hr] at hmem; cases hmem
        · rfl
    rcases hI with ⟨hN, _⟩ | ⟨_, hQ⟩
    · rw [hready N (by omega)] at hN; cases hN
    · exact hQ
  · simp
  · have : (Array.replicate ops.size false).getD i false = false := by
      simp only [Array.getD_eq_getD_getElem?, Array.getElem?_replicate]; split <;> rfl
    rw [this] at h; cases h
  · simp only [Array.getD_eq_getD_getElem?, Array.getElem?_replicate]; split <;> rfl
  · have : (Array.replicate ops.size false).getD i false = false := by
      simp only [Array.getD_eq_getD_getElem?, Array.getElem?_replicate]; split <;> rfl
    rw [this] at h; cases h
end
end Go.Proofs
namespace Go.Proofs
open Go.RowKit Go.Proofs.Pc
theorem SameM.frame {a0 a : Act} {dm : Nat → Nat} {N : Nat} (h : SameM a0 dm N a) (n : Nat) (hn : a0.tmps.size = n) :
    a = { tmps := ((List.range n).map fun t => if (List.range N).any (fun i => dm i == t) then a.tmps.getD t undef else a0.tmps.getD t undef).toArray, defers := a0.defers } := by
  obtain ⟨t, d⟩ := a
  have hd := h.defers
  have hs := h.size
  have ho := h.out
  simp only at hd hs ho
  subst hd
  congr 1
  apply Array.ext'
  apply List.ext_getElem?
  intro i
  show t.toList[i]? = (List.map _ (List.range n))[i]?
  rw [List.getElem?_map]
  rcases Nat.lt_or_ge i n with hi | hi
  · rw [List.getElem?_range hi]
    have hti : i < t.size := by omega
    simp only [Option.map_some]
    have hg : t.toList[i]? = some (t.getD i undef) := by simp [Array.getD_eq_getD_getElem?, hti]
    rw [hg]
    refine congrArg some ?_
    by_cases hx : (List.range N).any (fun q => dm q == i) = true
    · rw [if_pos hx]
    · rw [if_neg hx]
      refine ho i (fun j hj e => hx ?_)
      rw [List.any_eq_true]
      exact ⟨j, by simpa using hj, by simpa using e⟩
  · rw [List.getElem?_eq_none (by simpa using (by omega : t.size ≤ i)), List.getElem?_eq_none (by simpa using hi)]
    rfl
theorem SameM.frameV {a0 a : Act} {dm : Nat → Nat} {N : Nat} (h : SameM a0 dm N a) (n : Nat) (hn : a0.tmps.size = n) :
    ∃ vs : Nat → Value, (∀ t, vs t = a.tmps.getD t undef) ∧ a = { tmps := ((List.range n).map fun t => if (List.range N).any (fun i => dm i == t) then vs t else a0.tmps.toList.getD t undef).toArray, defers := a0.defers } := by
  refine ⟨fun t => a.tmps.getD t undef, fun _ => rfl, (h.frame n hn).trans ?_⟩
  have : ∀ t, a0.tmps.getD t undef = a0.tmps.toList.getD t undef := fun t => by simp [Array.getD_eq_getD_getElem?, List.getD_eq_getElem?_getD]
  simp only [this]
theorem inj_of {dm : Nat → Nat} {N : Nat} (h : (List.range N).all (fun i => (List.range N).all fun j => (dm i != dm j) || (i == j)) = true) : ∀ i j, i < N → j < N → dm i = dm j → i = j := fun i j hi hj e => by
  rw [List.all_eq_true] at h
  have h1 := h i (by simpa using hi)
  rw [List.all_eq_true] at h1
  have h2 := h1 j (by simpa using hj)
  simpa [e] using h2
theorem lt_of {dm : Nat → Nat} {N n : Nat} (h : (List.range N).all (fun i => decide (dm i < n)) = true) : ∀ i, i < N → dm i < n := fun i hi => by
  rw [List.all_eq_true] at h
  simpa using h i (by simpa using hi)
section
variable {o : Oper} {a : Act} {w w' : World} {n : Nat} {next : Act → World → Prop} {Q : Exit → Act → World → Prop} {v : Value}
theorem wpW_skip (hrun : (execOp a.eval o).run Try.prog w = .ok .skip w') (h : next (a.put o.dst undef) w') : o.wpIn Fence.wide n Try.prog a w next Q :=
  ⟨fun _ _ => trivial, by rw [Fence.wide_round, Oper.semAt_none, hrun]; exact h⟩
theorem r_call1 {f : FuncId} (x : Operand) (u : Value) (T : Array TypeId) (ho : o.op = .call { callee := .value (.func f), args := #[x], argTypes := T }) (hx : a.eval x = u)
    (he : ∀ args w, (callFunc f args).run Try.prog w = .ok (.enter f args) w) : (execOp a.eval o).run Try.prog w = .ok (.enter f #[u]) w := by
  have hf : a.eval (.func f) = .func (.func f) #[] #[] := rfl
  unfold execOp
  simp only [ho, resolve, List.map_toArray, List.map_cons, List.map_nil, hx, hf]
  simp [go_sem, he]
theorem agg22 (w : World) : (isAgg 22).run Try.prog w = .ok false w := by kernel_rfl
theorem agg23 (w : World) : (isAgg 23).run Try.prog w = .ok false w := by kernel_rfl
theorem agg24 (w : World) : (isAgg 24).run Try.prog w = .ok false w := by kernel_rfl
theorem r_load1 (T : TypeId) (hT : ∀ w, (isAgg T).run Try.prog w = .ok false w) (x : Operand) (ad : Addr) (ho : o.op = .load T x) (hx : a.eval x = .pointer (some ad)) (hc : w.cell? ad = some v) : (execOp a.eval o).run Try.prog w = .ok (.value v) w := by
  unfold execOp
  simp only [ho, hx, Instr.loadAt, Instr.sureAddr, loadVar, Sem.run_bind, Sem.run_pure, Result.andThen_ok, hT]
  simp [go_sem, hc]
theorem fld26_0 (b : Nat) (w : World) : (Instr.fieldAt 26 (.pointer (some ⟨b, 0, none⟩)) 0).run Try.prog w = .ok (.pointer (some ⟨b, 0, none⟩)) w := by kernel_rfl
theorem fld26_1 (b : Nat) (w : World) : (Instr.fieldAt 26 (.pointer (some ⟨b, 0, none⟩)) 1).run Try.prog w = .ok (.pointer (some ⟨b, 1, none⟩)) w := by kernel_rfl
theorem fld26_2 (b : Nat) (w : World) : (Instr.fieldAt 26 (.pointer (some ⟨b, 0, none⟩)) 2).run Try.prog w = .ok (.pointer (some ⟨b, 2, none⟩)) w := by kernel_rfl
theorem build26 (A B : Option Addr) (n m c d : Nat) (w : World) : (Instr.build 26 #[(0, .slice A n c), (1, .slice B m d)]).run Try.prog w = .ok (.agg #[.slice A n c, .slice B m d, .slice none 0 0]) w := by kernel_rfl
theorem alloc26 (w : World) : (Instr.alloc 26 true (.tuple #[])).run Try.prog w = .ok (.pointer (some ⟨w.heap.size, 0, none⟩)) (w.alloc (.cells #[.slice none 0 0, .slice none 0 0, .slice none 0 0] 26)) := by kernel_rfl
theorem bslice24 (A : Option Addr) (n c : Nat) (w : World) : (Instr.buildSlice 24 1 #[(0, .slice A n c)]).run Try.prog w = .ok (.slice (some ⟨w.heap.size, 0, none⟩) 1 1) (w.alloc (.cells #[.slice A n c] 23)) := by kernel_rfl
theorem r_bld26 (x y : Operand) (A B : Option Addr) (n m c d : Nat) (ho : o.op = .build 26 #[(0, x), (1, y)]) (hx : a.eval x = .slice A n c) (hy : a.eval y = .slice B m d) :
    (execOp a.eval o).run Try.prog w = .ok (.value (.agg #[.slice A n c, .slice B m d, .slice none 0 0])) w := by
  have hb := build26 A B n m c d w
  unfold execOp
  simp only [ho, List.map_toArray, List.map_cons, List.map_nil, hx, hy, Sem.run_bind, hb, Result.andThen_ok]
  rfl
theorem r_alloc26 (ho : o.op = .alloc 26) : (execOp a.eval o).run Try.prog w = .ok (.value (.pointer (some ⟨w.heap.size, 0, none⟩))) (w.alloc (.cells #[.slice none 0 0, .slice none 0 0, .slice none 0 0] 26)) := by
  have hb := alloc26 w
  unfold execOp
  simp only [ho, Sem.run_bind, hb, Result.andThen_ok]
  rfl
theorem r_bs24 (x : Operand) (A : Option Addr) (m c : Nat) (ho : o.op = .buildSlice 24 1 #[(0, x)]) (hx : a.eval x = .slice A m c) :
    (execOp a.eval o).run Try.prog w = .ok (.value (.slice (some ⟨w.heap.size, 0, none⟩) 1 1)) (w.alloc (.cells #[.slice A m c] 23)) := by
  have hb := bslice24 A m c w
  unfold execOp
  simp only [ho, List.map_toArray, List.map_cons, List.map_nil, hx, Sem.run_bind, hb, Result.andThen_ok]
  rfl
theorem r_store26 (x y : Operand) (ho : o.op = .store 26 x y) (g : Nat) (old c' : Array Value) (hx : a.eval x = .pointer (some ⟨g, 0, none⟩)) (hy : a.eval y = .agg c') (hg : w.heap[g]? = some (.cells old 26 (0, 0)))
    (hi : (Try.prog.info? 26).map (·.size) = some c'.size) (hoo : old.size = c'.size) (h1 : c'.all (·.oneCell') = true) : (execOp a.eval o).run Try.prog w = .ok .skip (w.setRow g c') := by
  unfold execOp
  simp only [ho, hx, hy, Instr.storeAt, Instr.sureAddr, Sem.run_bind, Sem.run_pure, Result.andThen_ok, run_storeVar_row w g 26 26 old c' hg hi hoo h1]
theorem size24 (w : World) : (sizeOf 24).run Try.prog w = .ok 1 w := by kernel_rfl
theorem r_store24 (x y : Operand) (b j : Nat) (A : Option Addr) (m c : Nat) (ho : o.op = .store 24 x y) (hx : a.eval x = .pointer (some ⟨b, j, none⟩)) (hy : a.eval y = .slice A m c) (hc : (w.cell? ⟨b, j, none⟩).isSome = true) (hf : w.frozen? ⟨b, j, none⟩ = false) :
    (execOp a.eval o).run Try.prog w = .ok .skip (w.setCell ⟨b, j, none⟩ (.slice A m c)) := by
  unfold execOp
  simp only [ho, hx, hy, Instr.storeAt, Instr.sureAddr, storeVar, Sem.run_bind, Sem.run_pure, Result.andThen_ok, size24]
  obtain ⟨u, hu⟩ := Option.isSome_iff_exists.1 hc
  simp [go_sem, hu, hf]
theorem r_app (s x : Operand) (t : TypeId) {sv xv v' : Value} (ho : o.op = .call { callee := .builtin .append, args := #[s, x], argTypes := #[t, t] }) (hs : a.eval s = sv) (hx : a.eval x = xv)
    (hr : (Builtin.append_ #[t, t] o.type #[sv, xv]).run Try.prog w = .ok v' w') : (execOp a.eval o).run Try.prog w = .ok (.value v') w' := by
  unfold execOp
  simp only [ho, resolve, invoke, builtin, Sem.run_bind, Sem.run_pure, Result.andThen_ok, List.map_toArray, List.map_cons, List.map_nil, hs, hx, hr]
end
section
variable {o : Oper} {rest : List Oper} {ops : Array Oper} {a : Act} {w w' : World} {n : Nat} {Q : Exit → Act → World → Prop}
theorem wpListIn_skip (hg : o.guard = none) (hrun : (execOp a.eval o).run Try.prog w = .ok .skip w') (h : wpListIn Fence.wide n Try.prog ops Q rest (a.put o.dst undef) w') : wpListIn Fence.wide n Try.prog ops Q (o :: rest) a w :=
  wpListIn_plain hg fun _ hK => ⟨fun _ _ => trivial, by
    rw [Fence.wide_round, Oper.semAt_none, hrun]
    exact hK _ _ h⟩
end
theorem info23 : (Try.prog.info? 23).map (fun i => (i.zero, i.size, i.bytes)) = some (some (.slice none 0 0), 1, 24) := by kernel_rfl
theorem r_load26 {o : Oper} {a : Act} {w : World} (x : Operand) (b : Nat) (v0 v1 v2 : Value) (ho : o.op = .load 26 x) (hx : a.eval x = .pointer (some ⟨b, 0, none⟩)) (hc : w.heap[b]? = some (.cells #[v0, v1, v2] 26 (0, 0))) : (execOp a.eval o).run Try.prog w = .ok (.value (.agg #[v0, v1, v2])) w := by
  have hr : w.rangeAt b 0 [v0, v1, v2] := fun j v hj => by rw [cell_of_row _ _ _ _ _ _ hc, Nat.zero_add]; simpa using hj
  unfold execOp
  simp only [ho, hx, Sem.run_bind, run_loadAt_mid (P := Try.prog) w b 0 26 [v0, v1, v2] _ hr Try.underlying26 rfl (by kernel_rfl), Result.andThen_ok]
  rfl
theorem info26s : (Try.prog.info? 26).map (·.size) = some 3 := by kernel_rfl
theorem call84 (args : Array Value) (w : World) : (callFunc 94 args).run Try.prog w = .ok (.enter 94 args) w := enters_of Try.func94 (by kernel_rfl) rfl args w
theorem call85 (args : Array Value) (w : World) : (callFunc 95 args).run Try.prog w = .ok (.enter 95 args) w := enters_of Try.func95 (by kernel_rfl) rfl args w
end Go.Proofs
namespace Go.Proofs
open Go.RowKit Go.Proofs.Pc
attribute [local simp, local go_sem] wide_fn wide_depth
def dmA : Nat → Nat := fun i => [6, 7, 8, 9, 10, 11, 12, 3].getD i 0
def phA (bp : Nat) (v0 v1 : Value) (P : PcD) (B : Nat) : Nat → Value → World → Prop
  | 0, v, _ => v = .pointer (some ⟨bp, 0, none⟩)
  | 1, v, _ => v = v0
  | 2, v, w => IntsT w v P.orders
  | 3, v, _ => v = .pointer (some ⟨bp, 1, none⟩)
  | 4, v, _ => v = v1
  | 5, v, w => TabT w v P.powers
  | 6, v, w => ∃ u0 u1, v = .agg #[u0, u1, .slice none 0 0] ∧ IntsT w u0 P.orders ∧ TabT w u1 P.powers
  | 7, v, w => ∃ b, v = .pointer (some ⟨b, 0, none⟩) ∧ B ≤ b ∧ w.heap[b]? = some (.cells #[.slice none 0 0, .slice none 0 0, .slice none 0 0] 26 (0, 0))
  | _, _, _ => True
theorem phA_keep {bp : Nat} {v0 v1 : Value} {P : PcD} {B i : Nat} {v : Value} {w w' : World} (h : Below w.heap.size w w') (hp : phA bp v0 v1 P B i v w) : phA bp v0 v1 P B i v w' := by
  match i with
  | 0 => exact hp
  | 1 => exact hp
  | 2 => exact IntsT.keep hp (Agree.below h)
  | 3 => exact hp
  | 4 => exact hp
  | 5 => exact TabT.keep hp (Agree.below h)
  | 6 => obtain ⟨u0, u1, h1, h2, h3⟩ := hp; exact ⟨u0, u1, h1, h2.keep (Agree.below h), h3.keep (Agree.below h)⟩
  | 7 => obtain ⟨b, h1, h2, h3⟩ := hp; exact ⟨b, h1, h2, (h.block _ (Array.getElem?_eq_some_iff.1 h3).1).trans h3⟩
  | _ + 8 => trivial
def dmB : Nat → Nat := fun i => [20, 21, 22, 23, 24, 25, 26].getD i 0
def phB (bo : Nat) (sv uk : Value) (L : List (List Int)) (B base k : Nat) (vals : List Value) : Nat → Value → World → Prop
  | 0, v, _ => v = .pointer (some ⟨bo, 2, none⟩)
  | 1, v, _ => v = sv
  | 2, v, _ => v = uk
  | 3, v, w => TabT w v L
  | 4, v, w => ∃ b c, v = .slice (some ⟨b, 0, none⟩) 1 1 ∧ B ≤ b ∧ w.heap[b]? = some (.cells #[c] 23 (0, 0)) ∧ TabT w c L
  | 5, v, w => ∃ c, TabT w c L ∧ w.ownsRow base 23 1 v (k + 1) (vals ++ [c])
  | 6, v, _ => v = .pointer (some ⟨bo, 2, none⟩)
  | _, _, _ => True
theorem owns_below {w w' : World} {base e size n : Nat} {v : Value} {xs : List Value} (h : w.ownsRow base e size v n xs) (hb : Below w.heap.size w w') : w'.ownsRow base e size v n xs := by
  obtain ⟨h1, h2⟩ := h
  refine ⟨h1, ?_⟩
  rcases h2 with h2 | ⟨g, cap, cur, a, b, hg, r⟩
  · exact .inl h2
  · exact .inr ⟨g, cap, cur, a, b, (hb.block _ (Array.getElem?_eq_some_iff.1 hg).1).trans hg, r⟩
/-- the row of a slice: none, or a block of slices of slices -/
theorem row_of_owns {w : World} {base n : Nat} {v : Value} {xs : List Value} (h : w.ownsRow base 23 1 v n xs) : ∀ r, v.ownBlock = some r → ∃ C, w.heap[r]? = some (.cells C 23 (0, 0)) := fun r hr => by
  rcases h.2 with ⟨rfl, -⟩ | ⟨g, cap, cur, rfl, -, hg, -⟩
  · cases hr
  · have : g = r := Option.some.inj hr
    subst this
    exact ⟨cur, hg⟩
def gB (sv : Value) (i : Nat) (w w' : World) : Prop := if i = 5 then w.grownBy w' sv.ownBlock ∧ Agree [3, 22] w w' else Below w.heap.size w w'
theorem phB_keep {bo : Nat} {sv uk : Value} {L : List (List Int)} {B base k : Nat} {vals : List Value} {i j : Nat} {v : Value} {w w' : World} (hB : ∀ r, sv.ownBlock = some r → r < B) (hij : i ≠ j) (h : gB sv i w w') (hp : phB bo sv uk L B base k vals j v w) : phB bo sv uk L B base k vals j v w' := by
  have hag : Agree [3, 22] w w' := by
    unfold gB at h
    by_cases e : i = 5
    · rw [if_pos e] at h; exact h.2
    · rw [if_neg e] at h; exact Agree.below h
  match j with
  | 0 => exact hp
  | 1 => exact hp
  | 2 => exact hp
  | 3 => exact TabT.keep hp hag
  | 4 =>
    obtain ⟨b, c, h1, h2, h3, h4⟩ := hp
    refine ⟨b, c, h1, h2, ?_, h4.keep hag⟩
    have hlt := (Array.getElem?_eq_some_iff.1 h3).1
    unfold gB at h
    by_cases e : i = 5
    · rw [if_pos e] at h
      exact (h.1.block b hlt (fun e2 => by have := hB b e2.symm; omega)).trans h3
    · rw [if_neg e] at h; exact (h.block b hlt).trans h3
  | 5 =>
    obtain ⟨c, h1, h2⟩ := hp
    unfold gB at h
    rw [if_neg hij] at h
    exact ⟨c, h1.keep hag, owns_below h2 h⟩
  | 6 => exact hp
  | _ + 7 => trivial
theorem sl_of_owns {w : World} {base e n : Nat} {v : Value} {xs : List Value} (h : w.ownsRow base e 1 v n xs) : Sl w v xs := by
  obtain ⟨hl, h⟩ := h
  rcases h with ⟨rfl, rfl⟩ | ⟨g, cap, cur, rfl, hbg, hg, hnc, hcm, hcs, htake⟩
  · exact ⟨none, 0, 0, rfl, by simpa using hl.symm, Nat.le_refl _, by simp [maxLen], fun h => absurd h (by omega)⟩
  · refine ⟨_, n, cap, rfl, by omega, hnc, hcm, fun _ => ⟨g, 0, rfl, fun j u hu => ?_⟩⟩
    rw [cell_of_row _ _ _ _ _ _ hg, Nat.zero_add]
    rw [← htake, List.getElem?_take] at hu
    split at hu
    · simpa using hu
    · cases hu
structure CpRel (w : World) (P : PcD) (v0 v1 v2 : Value) (bo : Nat) (u0 u1 sv : Value) (vals : List Value) (k : Nat) (wr : World) : Prop where
  below : Below w.heap.size w wr
  hp : wr.heap[w.heap.size]? = some (.cells #[v0, v1, v2] 26 (0, 0))
  hr : wr.heap[w.heap.size + 1]? = some (.cells #[.slice none 0 0, .slice none 0 0, .slice none 0 0] 26 (0, 0))
  ho : wr.heap[bo]? = some (.cells #[u0, u1, sv] 26 (0, 0))
  i0 : IntsT wr u0 P.orders
  t1 : TabT wr u1 P.powers
  own : wr.ownsRow (w.heap.size + 2) 23 1 sv k vals
  tk : ∀ j, j < k → ∃ u, vals[j]? = some u ∧ TabT wr u (P.conj.getD j [])
theorem cprel_next {w wr w2 : World} {P : PcD} {v0 v1 v2 u0 u1 sv v' c : Value} {vals : List Value} {bo k : Nat} (h : CpRel w P v0 v1 v2 bo u0 u1 sv vals k wr) (hbo : w.heap.size ≤ bo) (hb1 : bo ≠ w.heap.size) (hb2 : bo ≠ w.heap.size + 1) (hvl : vals.length = k)
    (hg : wr.grownBy w2 sv.ownBlock) (hc : TabT w2 c (P.conj.getD k [])) (hown : w2.ownsRow (w.heap.size + 2) 23 1 v' (k + 1) (vals ++ [c])) : CpRel w P v0 v1 v2 bo u0 u1 v' (vals ++ [c]) (k + 1) (w2.setCell ⟨bo, 2, none⟩ v') := by
  have hrow := row_of_owns h.own
  have hne : ∀ {b C}, wr.heap[b]? = some (Obj.cells C 26 (0, 0)) → w2.heap[b]? = some (Obj.cells C 26 (0, 0)) := fun {b C} hb => by
    refine (hg.block b (Array.getElem?_eq_some_iff.1 hb).1 (fun e => ?_)).trans hb
    obtain ⟨C', h'⟩ := hrow b e.symm
    rw [hb] at h'; cases h'
  have hag1 : Agree [3, 22] wr w2 := Agree.grown hg (fun r hr => by obtain ⟨C, hC⟩ := hrow r hr; exact ⟨C, 23, _, hC, by simp⟩)
  have hag2 : Agree [3, 22] w2 (w2.setCell ⟨bo, 2, none⟩ v') := Agree.setCell (hne h.ho) (by simp)
  have hag3 : Agree [23] w2 (w2.setCell ⟨bo, 2, none⟩ v') := Agree.setCell (hne h.ho) (by simp)
  have hbw : Below w.heap.size w w2 := h.below.grown hg h.below.size (fun r hr => by
    rcases h.own.2 with ⟨rfl, -⟩ | ⟨g, cap, cur, rfl, hgb, -⟩
    · cases hr
    · have : g = r := Option.some.inj hr
      omega)
  refine ⟨hbw.setCell (p := ⟨bo, 2, none⟩) hbo _, ?_, ?_, ?_, (h.i0.keep (hag1.mono (by simp))).keep (hag2.mono (by simp)), (h.t1.keep hag1).keep hag2, ?_, fun j hj => ?_⟩
  · rw [Below.heap_setCell _ _ _ _ (fun e => hb1 (by simpa using e.symm))]; exact hne h.hp
  · rw [Below.heap_setCell _ _ _ _ (fun e => hb2 (by simpa using e.symm))]; exact hne h.hr
  · have := hne h.ho
    simp [World.setCell, Array.getElem?_modify, this]
  · obtain ⟨h1, h2⟩ := hown
    refine ⟨h1, ?_⟩
    rcases h2 with h2 | ⟨g, cap, cur, a, b, hgg, r⟩
    · exact .inl h2
    · exact .inr ⟨g, cap, cur, a, b, hag3 _ _ _ _ (by simp) hgg, r⟩
  · rcases Nat.lt_or_ge j k with hjk | hjk
    · obtain ⟨u, hu, ht⟩ := h.tk j hjk
      exact ⟨u, by rw [List.getElem?_append_left (by omega)]; exact hu, (ht.keep hag1).keep hag2⟩
    · obtain rfl : j = k := by omega
      exact ⟨c, by rw [List.getElem?_append_right (by omega), hvl]; simp, hc.keep hag2⟩
theorem info23p : ∃ i, Try.prog.info? 23 = some i ∧ i.zero = some (.slice none 0 0) ∧ i.size = 1 ∧ i.bytes = 24 := by
  have h := info23
  cases hq : Try.prog.info? 23 with
  | none => simp [hq] at h
  | some i => simp [hq] at h; exact ⟨i, rfl, h⟩
/-- the three values read as P by cells of blocks of numbers, of slices of numbers, of slices of those -/
def PcT (w : World) (v0 v1 v2 : Value) (P : PcD) : Prop := ∀ w' : World, Agree [3, 22, 23] w w' → PcAt w' v0 v1 v2 P
theorem PcT.at_ {w : World} {v0 v1 v2 : Value} {P : PcD} (h : PcT w v0 v1 v2 P) : PcAt w v0 v1 v2 P := h w Agree.refl
set_option maxRecDepth 100000 in
set_option maxHeartbeats 1000000 in
theorem copied_in (w : World) (v0 v1 v2 : Value) (P : PcD) (hP : PcAt w v0 v1 v2 P) (h0 : P.orders.length ≤ 1000) (h1 : P.powers.length ≤ 1000) (h1s : ∀ k, k < P.powers.length → (P.powers.getD k []).length ≤ 1000)
    (h2 : P.conj.length ≤ 1000) (h2s : ∀ k, k < P.conj.length → (P.conj.getD k []).length ≤ 1000) (h3s : ∀ k, k < P.conj.length → ∀ i, i < (P.conj.getD k []).length → ((P.conj.getD k []).getD i []).length ≤ 1000) :
    CallsIn Fence.wide 3 Try.prog 55 #[.agg #[v0, v1, v2]] w fun e w' => (∃ u0 u1 u2, e = .returned (.agg #[u0, u1, u2]) ∧ PcT w' u0 u1 u2 P) ∧ Below w.heap.size w w' := by
  have HP0 := Lib.hid hP.1
  have HP1 := Lib.hid hP.2.1
  obtain ⟨A2, n2, rfl, ha1, ha2, ha⟩ := hP.2.2.open_
  have HA := Lib.hid ha
  have H1S := Lib.hid h1s
  have H2S := Lib.hid h2s
  have H3S := Lib.hid h3s
  clear hP ha h1s h2s h3s
  gi_enter Try.func55, Try.ntmps55
  gi_wp2_with fail
  obtain ⟨W, hW⟩ : ∃ W, (w.alloc (.cells #[v0, v1, .slice A2 P.conj.length n2] 26)).alloc (.cells #[.slice none 0 0, .slice none 0 0, .slice none 0 0] 26) = W := ⟨_, rfl⟩
  have hBW : Below w.heap.size w W := by rw [← hW]; exact ((Below.refl _ w).alloc (Nat.le_refl _) _).alloc (by simp) _
  have hWp : W.heap[w.heap.size]? = some (.cells #[v0, v1, .slice A2 P.conj.length n2] 26 (0, 0)) := by
    rw [← hW]; exact (Below.heap_alloc _ _ _ (by simp)).trans (heap_alloc_new w _)
  have hWr : W.heap[w.heap.size + 1]? = some (.cells #[.slice none 0 0, .slice none 0 0, .slice none 0 0] 26 (0, 0)) := by
    rw [← hW]; have := heap_alloc_new (w.alloc (.cells #[v0, v1, .slice A2 P.conj.length n2] 26)) (.cells #[.slice none 0 0, .slice none 0 0, .slice none 0 0] 26); rwa [World.size_alloc] at this
  have hWs : W.heap.size = w.heap.size + 2 := by rw [← hW]; simp
  rw [hW]
  clear hW
  refine wpIn_region_one (by kernel_rfl) dmA 8 (tailed1_of (by kernel_rfl)) (fun w' => Below W.heap.size W w') (phA w.heap.size v0 v1 P W.heap.size) (fun w w' => Below w.heap.size w w') (inj_of (by decide)) (fun q v w w' h => phA_keep h) (lt_of (n := 29) (by decide)) (Below.refl _ _).drew ?_ ?_
  · intro q o a w2 hq ho hS hsame hpre
    have hBw2 : Below w.heap.size w w2 := hBW.trans (hS.mono hBW.size)
    have hcp : ∀ j v, #[v0, v1, .slice A2 P.conj.length n2][j]? = some v → w2.cell? ⟨w.heap.size, j, none⟩ = some v := fun j v hj => by
      rw [cell_of_row _ _ _ _ _ _ ((hS.block _ (by omega)).trans hWp)]; exact hj
    have ht1 : a.eval (.tmp 1) = .pointer (some ⟨w.heap.size, 0, none⟩) := hsame.out 1 (by decide)
    have hcases : q = 0 ∨ q = 1 ∨ q = 2 ∨ q = 3 ∨ q = 4 ∨ q = 5 ∨ q = 6 ∨ q = 7 := by omega
    rcases hcases with rfl | rfl | rfl | rfl | rfl | rfl | rfl | rfl
    · obtain rfl := Option.some.inj ho; exact ⟨rfl, rfl, (by exact wpW_val (r_fld (.tmp 1) _ rfl ht1 (fld26_0 _ _)) ⟨_, rfl, hS, Below.refl _ _, rfl⟩)⟩
    · obtain rfl := Option.some.inj ho; exact ⟨rfl, rfl, (by exact wpW_val (r_load1 22 agg22 (.tmp 6) ⟨w.heap.size, 0, none⟩ rfl (hpre ⟨0, .data⟩ (by simp) rfl) (hcp 0 _ rfl)) ⟨_, rfl, hS, Below.refl _ _, rfl⟩)⟩
    · obtain rfl := Option.some.inj ho
      exact ⟨rfl, rfl, (by exact wpW_call (R := fun v w' => IntsT w' v P.orders ∧ Below w2.heap.size w2 w') (r_call1 (.tmp 7) v0 _ rfl (hpre ⟨1, .data⟩ (by simp) rfl) call84) ((clone_T w2 v0 P.orders (HP0.out.below hBw2) h0).mono fun e w' ⟨u, he, hu, hb⟩ => ⟨u, he, hu, hb⟩) (fun v w'' h => ⟨v, rfl, hS.trans (h.2.mono hS.size), h.2, h.1⟩))⟩
    · obtain rfl := Option.some.inj ho; exact ⟨rfl, rfl, (by exact wpW_val (r_fld (.tmp 1) _ rfl ht1 (fld26_1 _ _)) ⟨_, rfl, hS, Below.refl _ _, rfl⟩)⟩
    · obtain rfl := Option.some.inj ho; exact ⟨rfl, rfl, (by exact wpW_val (r_load1 23 agg23 (.tmp 9) ⟨w.heap.size, 1, none⟩ rfl (hpre ⟨3, .data⟩ (by simp) rfl) (hcp 1 _ rfl)) ⟨_, rfl, hS, Below.refl _ _, rfl⟩)⟩
    · obtain rfl := Option.some.inj ho
      exact ⟨rfl, rfl, (by exact wpW_call (R := fun v w' => TabT w' v P.powers ∧ Below w2.heap.size w2 w') (r_call1 (.tmp 10) v1 _ rfl (hpre ⟨4, .data⟩ (by simp) rfl) call85) ((own_new w2 v1 P.powers (kept_tab.below HP1.out hBw2) h1 H1S.out).mono fun e w' ⟨u, he, hu, hb⟩ => ⟨u, he, hu, hb⟩) (fun v w'' h => ⟨v, rfl, hS.trans (h.2.mono hS.size), h.2, h.1⟩))⟩
    · obtain rfl := Option.some.inj ho
      have hu0 : IntsT w2 (a.tmps.getD 8 undef) P.orders := hpre ⟨2, .data⟩ (by simp) rfl
      have hu1 : TabT w2 (a.tmps.getD 11 undef) P.powers := hpre ⟨5, .data⟩ (by simp) rfl
      obtain ⟨B0, c0, e0, -⟩ := hu0.at_.open_
      obtain ⟨B1, c1, e1, -⟩ := hu1.at_.open_
      rw [e0] at hu0
      rw [e1] at hu1
      exact ⟨rfl, rfl, (by exact wpW_val (r_bld26 (.tmp 8) (.tmp 11) _ _ _ _ _ _ rfl e0 e1) ⟨_, rfl, hS, Below.refl _ _, _, _, rfl, hu0, hu1⟩)⟩
    · obtain rfl := Option.some.inj ho
      exact ⟨rfl, rfl, (by exact wpW_val (r_alloc26 rfl) ⟨_, rfl, hS.alloc hS.size _, (Below.refl _ _).alloc (Nat.le_refl _) _, _, rfl, hS.size, heap_alloc_new _ _⟩)⟩
  · intro a w2 hS hsame hsl
    obtain ⟨bo, e3, hbo, hob⟩ := hsl 7 (by omega)
    obtain ⟨u0, u1, e12, hu0, hu1⟩ := hsl 6 (by omega)
    obtain ⟨vs, hvs, hfr⟩ := hsame.frameV 29 rfl
    have hlt := (Array.getElem?_eq_some_iff.1 hob).1
    have hst := setRow_heap w2 bo _ #[u0, u1, .slice none 0 0] 26 (0, 0) hob
    have hag : Agree [3, 22] w2 (w2.setRow bo #[u0, u1, .slice none 0 0]) := fun k C t fr ht hk => by
      rw [setRow_other w2 bo k _ (fun e => by subst e; rw [hob] at hk; cases hk; simp at ht)]; exact hk
    have h1c : #[u0, u1, .slice none 0 0].all (·.oneCell') = true := by
      obtain ⟨B0, c0, e0, -⟩ := hu0.at_.open_
      obtain ⟨B1, c1, e1, -⟩ := hu1.at_.open_
      rw [e0, e1]; simp [Value.oneCell']
    refine wpOpIn_of (o := ⟨none, .store 26 (.tmp 3) (.tmp 12), 0, "collect.go:265", _, none⟩) rfl rfl (wpW_skip (r_store26 (.tmp 3) (.tmp 12) rfl bo _ #[u0, u1, .slice none 0 0] e3 e12 hob info26s rfl h1c) ?_)
    have hBS : Below W.heap.size W (w2.setRow bo #[u0, u1, .slice none 0 0]) := ⟨hS.os, hS.tape, hS.output, by rw [World.setRow]; simpa using hS.size, fun k hk => (setRow_other w2 bo k _ (by omega)).trans (hS.block k hk)⟩
    have e3' := (hvs 3).trans e3
    have hi0 := hu0.keep (hag.mono (by simp))
    have ht1 := hu1.keep hag
    have hbx : w.heap.size ≤ bo ∧ bo ≠ w.heap.size ∧ bo ≠ w.heap.size + 1 := by omega
    generalize w2.setRow bo #[u0, u1, .slice none 0 0] = W2 at *
    show Exit.then _ _ Exit.normal a W2
    clear hsl hsame e12 e3 hob hu0 hu1 h1c hag hvs hbo hlt
    subst hfr
    dsimp only
    simp only [List.range, List.range.loop, List.map_cons, List.map_nil, List.any_cons, List.any_nil, dmA, List.getD_cons_zero, List.getD_cons_succ, Nat.reduceBEq, Bool.or_false, Bool.or_true, Bool.false_eq_true, if_true, if_false]
    rw [e3']
    have hCR0 : CpRel w P v0 v1 (.slice A2 P.conj.length n2) bo u0 u1 (.slice none 0 0) [] 0 W2 := ⟨hBW.trans (hBS.mono hBW.size), (hBS.block _ (by omega)).trans hWp, (hBS.block _ (by omega)).trans hWr, hst, hi0, ht1, World.ownsRow_nil _ _ _ _, fun j hj => absurd hj (by omega)⟩
    have c2 : W2.cell? ⟨w.heap.size, 2, none⟩ = some (.slice A2 P.conj.length n2) := by rw [cell_of_row _ _ _ _ _ _ hCR0.hp]; rfl
    clear hst hi0 ht1 hBS hS e3' HP0 HP1 hWp hWr hBW
    have HC0 := Lib.hid hCR0
    clear hCR0
    gi_wp2_with fail
    gi_loopw [16] (fun i wr => ∃ k : Nat, k ≤ P.conj.length ∧ i = .int .i64 k ∧ ∃ sv vals, CpRel w P v0 v1 (.slice A2 P.conj.length n2) bo u0 u1 sv vals k wr) (fun i _ => P.conj.length - (intOf i).toNat)
    case atStart => exact ⟨0, Nat.zero_le _, rfl, _, _, HC0.out⟩
    case round =>
      obtain ⟨k, hk, rfl, sv, vals, hCR⟩ := hrel
      have HCR := Lib.hid hCR
      clear hCR
      by_cases hlt : k < P.conj.length
      · obtain ⟨b2, o2, rfl, hc2⟩ := HA.out (by omega)
        obtain ⟨uk, huk, hrk⟩ := hc2 k hlt
        have hvk : wr.cell? ⟨b2, o2 + k, none⟩ = some uk := (HCR.out.below.cell (p := ⟨b2, o2 + k, none⟩) (World.block_lt_of_cell? w _ huk)).trans huk
        have HRK := Lib.hid hrk
        have HX2 := Lib.hid (H2S.out k hlt)
        have HX3 := Lib.hid (H3S.out k hlt)
        have hk0 : (0 : Int) ≤ (k : Int) := Int.natCast_nonneg _
        have hka : (k : Int) < (P.conj.length : Int) := by omega
        clear hc2 huk hrk
        gi_wp2_with fail
        have hCR := HCR.out
        have hrow := row_of_owns hCR.own
        have hrlt : ∀ r, sv.ownBlock = some r → r < wr.heap.size := fun r hr => by obtain ⟨C, hC⟩ := hrow r hr; exact (Array.getElem?_eq_some_iff.1 hC).1
        have hbne : some bo ≠ sv.ownBlock := fun e => by
          obtain ⟨C, hC⟩ := hrow bo e.symm
          rw [hCR.ho] at hC; cases hC
        have hvl : vals.length = k := by simpa using hCR.own.1
        have hrB : ∀ r, sv.ownBlock = some r → w.heap.size ≤ r := fun r hr => by
          rcases hCR.own.2 with ⟨e, -⟩ | ⟨g, cap, cur, e, hgb, -⟩
          · rw [e] at hr; cases hr
          · rw [e] at hr
            have : g = r := Option.some.inj hr
            omega
        obtain ⟨i23, hi23, hz23, hs23, hb23⟩ := info23p
        refine wpIn_region_ls (by kernel_rfl) dmB 7 (tailed1_of (by kernel_rfl)) (fun ls w' => wr.grownBy w' sv.ownBlock ∧ (ls 5 = false → Below wr.heap.size wr w')) (phB bo sv uk (P.conj.getD k []) wr.heap.size (w.heap.size + 2) k vals) (gB sv) (inj_of (by decide)) (fun i j v w w' hi hj hij h => phB_keep hrlt hij h) (lt_of (n := 29) (by decide)) ⟨only_of_below (Below.refl _ _).drew _, fun _ => (Below.refl _ _).drew⟩ ?_ ?_
        · intro ls q o a w2 hq ho hS hls hsame hpre
          obtain ⟨hS1, hS2⟩ := hS
          have hob : w2.heap[bo]? = some (.cells #[u0, u1, sv] 26 (0, 0)) := (hS1.block bo (Array.getElem?_eq_some_iff.1 hCR.ho).1 hbne).trans hCR.ho
          have hcb : w2.cell? ⟨bo, 2, none⟩ = some sv := by rw [cell_of_row _ _ _ _ _ _ hob]; rfl
          have ht3 : a.eval (.tmp 3) = .pointer (some ⟨bo, 0, none⟩) := hsame.out 3 (by decide)
          have ht5 : a.eval (.tmp 5) = uk := hsame.out 5 (by decide)
          have hBw2 : Below w.heap.size w w2 := hCR.below.grown hS1 hCR.below.size hrB
          have hgb : ∀ {i : Nat} {w' : World}, i ≠ 5 → Below w2.heap.size w2 w' → gB sv i w2 w' := fun hi h => by unfold gB; rw [if_neg hi]; exact h
          have hSn : ∀ {i : Nat} {w' : World}, i ≠ 5 → Below w2.heap.size w2 w' → wr.grownBy w' sv.ownBlock ∧ ((if i = 5 then true else ls 5) = false → Below wr.heap.size wr w') := fun {i w'} hi h =>
            ⟨hS1.trans (only_of_below h _), fun hl => by rw [if_neg hi] at hl; exact (hS2 hl).trans (h.mono hS1.size)⟩
          have hcases : q = 0 ∨ q = 1 ∨ q = 2 ∨ q = 3 ∨ q = 4 ∨ q = 5 ∨ q = 6 := by omega
          rcases hcases with rfl | rfl | rfl | rfl | rfl | rfl | rfl
          · obtain rfl := Option.some.inj ho; exact ⟨rfl, rfl, (by exact wpW_val (r_fld (.tmp 3) _ rfl ht3 (fld26_2 _ _)) ⟨_, rfl, hSn (by decide) (Below.refl _ _), hgb (by decide) (Below.refl _ _), rfl⟩)⟩
          · obtain rfl := Option.some.inj ho; exact ⟨rfl, rfl, (by exact wpW_val (r_load1 24 agg24 (.tmp 20) ⟨bo, 2, none⟩ rfl (hpre ⟨0, .data⟩ (by simp) rfl) hcb) ⟨_, rfl, hSn (by decide) (Below.refl _ _), hgb (by decide) (Below.refl _ _), rfl⟩)⟩
          · obtain rfl := Option.some.inj ho; exact ⟨rfl, rfl, (by exact wpW_val (r_move (.tmp 5) rfl ht5) ⟨_, rfl, hSn (by decide) (Below.refl _ _), hgb (by decide) (Below.refl _ _), rfl⟩)⟩
          · obtain rfl := Option.some.inj ho
            exact ⟨rfl, rfl, (by exact wpW_call (R := fun v w' => TabT w' v (P.conj.getD k []) ∧ Below w2.heap.size w2 w') (r_call1 (.tmp 22) uk _ rfl (hpre ⟨2, .data⟩ (by simp) rfl) call85) ((own_new w2 uk (P.conj.getD k []) (kept_tab.below HRK.out hBw2) HX2.out HX3.out).mono fun e w' ⟨u, he, hu, hb⟩ => ⟨u, he, hu, hb⟩) (fun v w'' h => ⟨v, rfl, hSn (by decide) h.2, hgb (by decide) h.2, h.1⟩))⟩
          · obtain rfl := Option.some.inj ho
            have hu1 : TabT w2 (a.tmps.getD 23 undef) (P.conj.getD k []) := hpre ⟨3, .data⟩ (by simp) rfl
            obtain ⟨B1, c1, e1, -⟩ := hu1.at_.open_
            rw [e1] at hu1
            have hal : Below w2.heap.size w2 (w2.alloc (.cells #[.slice B1 (P.conj.getD k []).length c1] 23)) := (Below.refl _ _).alloc (Nat.le_refl _) _
            exact ⟨rfl, rfl, (by exact wpW_val (r_bs24 (.tmp 23) _ _ _ rfl e1) ⟨_, rfl, hSn (by decide) hal, hgb (by decide) hal, _, _, rfl, hS1.size, heap_alloc_new _ _, hu1.keep (Agree.below hal)⟩)⟩
          · obtain rfl := Option.some.inj ho
            have hw2 := hS2 hls
            have hsv : a.eval (.tmp 21) = sv := hpre ⟨1, .data⟩ (by simp) rfl
            obtain ⟨bs, c, e4, hbs, hhs, htc⟩ := hpre ⟨4, .data⟩ (by simp) rfl
            have e4' : a.eval (.tmp 24) = .slice (some ⟨bs, 0, none⟩) 1 1 := e4
            have hnews : ∀ j u, [c][j]? = some u → w2.cell? ((⟨bs, 0, none⟩ : Addr).add j) = some u := World.news_of_block hhs
            have hc1 : ∀ u ∈ [c], u.oneCell' = true := fun u hu => by
              obtain ⟨B1, c1, e1, -⟩ := htc.at_.open_
              simp at hu
              rw [hu, e1]; simp [Value.oneCell']
            obtain ⟨v', w3, hr, hown', hgr, -, -⟩ := run_append_own_at (P := Try.prog) w2 (w.heap.size + 2) 24 24 23 i23 (.slice none 0 0) 1 24 Try.underlying24 hi23 hz23 hs23 hb23 rfl (by omega) sv k vals (owns_below hCR.own hw2) ⟨bs, 0, none⟩ 1 1 [c] rfl hnews hc1 (by unfold maxLen; omega) (by omega) (by have := hBw2.size; have := (Array.getElem?_eq_some_iff.1 hhs).1; have := (Array.getElem?_eq_some_iff.1 hCR.hr).1; have := hS1.size; omega)
            have hag : Agree [3, 22] w2 w3 := Agree.grown hgr (fun r hr' => by obtain ⟨C, hC⟩ := hrow r hr'; exact ⟨C, 23, _, (hw2.block r (hrlt r hr')).trans hC, by simp⟩)
            exact ⟨rfl, rfl, (by exact wpW_val (r_app (.tmp 21) (.tmp 24) 24 rfl hsv e4' hr) ⟨_, rfl, ⟨hS1.trans hgr, fun h => by simp at h⟩, by unfold gB; rw [if_pos rfl]; exact ⟨hgr, hag⟩, c, htc.keep hag, hown'⟩)⟩
          · obtain rfl := Option.some.inj ho; exact ⟨rfl, rfl, (by exact wpW_val (r_fld (.tmp 3) _ rfl ht3 (fld26_2 _ _)) ⟨_, rfl, hSn (by decide) (Below.refl _ _), hgb (by decide) (Below.refl _ _), rfl⟩)⟩
        · intro ls a w2 hS hlst hsame hsl
          obtain ⟨hS1, -⟩ := hS
          obtain ⟨c, htc, hown'⟩ := hsl 5 (by omega)
          have e26 := hsl 6 (by omega)
          obtain ⟨vs, hvs, hfr⟩ := hsame.frameV 29 rfl
          have hob : w2.heap[bo]? = some (.cells #[u0, u1, sv] 26 (0, 0)) := (hS1.block bo (Array.getElem?_eq_some_iff.1 hCR.ho).1 hbne).trans hCR.ho
          have hnx := cprel_next hCR hbx.1 hbx.2.1 hbx.2.2 hvl hS1 htc hown'
          obtain ⟨A9, n9, c9, e9⟩ : ∃ A n c, a.tmps.getD (dmB 5) undef = .slice A n c := by
            obtain ⟨A, n, c, h, -⟩ := sl_of_owns hown'
            exact ⟨_, _, _, h⟩
          rw [e9] at hnx
          refine wpOpIn_of (o := ⟨none, .store 24 (.tmp 26) (.tmp 25), 0, "collect.go:267", _, none⟩) rfl rfl (wpW_skip (r_store24 (.tmp 26) (.tmp 25) bo 2 A9 n9 c9 rfl e26 e9 (by rw [cell_of_row _ _ _ _ _ _ hob]; rfl) (by simp [World.frozen?, hob])) ?_)
          have hpt : ∀ a : Act, a.put none undef = a := fun _ => rfl
          dsimp only
          rw [hpt]
          clear hsl hsame e26 e9 hob htc hown' hvs hS1 hlst hCR
          subst hfr
          generalize w2.setCell ⟨bo, 2, none⟩ (.slice A9 n9 c9) = w3 at *
          have HNX := Lib.hid hnx
          clear hnx hrow hrlt hbne hvl hrB hi23 hz23 hs23 hb23 hvk
          dsimp only
          simp only [List.range, List.range.loop, List.map_cons, List.map_nil, List.any_cons, List.any_nil, dmB, List.getD_cons_zero, List.getD_cons_succ, Nat.reduceBEq, Bool.or_false, Bool.or_true, Bool.false_eq_true, if_true, if_false]
          gi_wp2_with fail
          go_roundw
          case rel => exact ⟨k + 1, by omega, by go_num, _, _, HNX.out⟩
          case measure => simp [intOf]; omega
      · obtain rfl : k = P.conj.length := by omega
        have hCR := HCR.out
        obtain ⟨A9, n9, c9, e9⟩ : ∃ A n c, sv = .slice A n c := by
          obtain ⟨A, n, c, h, -⟩ := sl_of_owns hCR.own
          exact ⟨_, _, _, h⟩
        obtain ⟨B0, m0, e0, -⟩ := hCR.i0.at_.open_
        obtain ⟨B1, m1, e1, -⟩ := hCR.t1.at_.open_
        have h1c : #[u0, u1, sv].all (·.oneCell') = true := by rw [e0, e1, e9]; simp [Value.oneCell']
        have hag : Agree [3, 22, 23] wr (wr.setRow (w.heap.size + 1) #[u0, u1, sv]) := fun k C t fr ht hk => by
          rw [setRow_other wr _ k _ (fun e => by subst e; rw [hCR.hr] at hk; cases hk; simp at ht)]; exact hk
        have hrow := setRow_heap wr (w.heap.size + 1) _ #[u0, u1, sv] 26 (0, 0) hCR.hr
        have hBe : Below w.heap.size w (wr.setRow (w.heap.size + 1) #[u0, u1, sv]) := hCR.below.trans ⟨rfl, rfl, rfl, by rw [World.setRow]; simp, fun k hk => setRow_other wr _ k _ (by omega)⟩
        have hPc : PcT (wr.setRow (w.heap.size + 1) #[u0, u1, sv]) u0 u1 sv P := fun w' hw => by
          have hag := hag.trans hw
          refine ⟨(hCR.i0.keep (hag.mono (by simp))).at_, (hCR.t1.keep (hag.mono (by simp))).at_, vals, ?_, by simpa using hCR.own.1, fun i hi => ?_⟩
          · refine sl_of_owns (base := w.heap.size + 2) (e := 23) (n := P.conj.length) ?_
            obtain ⟨h1, h2⟩ := hCR.own
            refine ⟨h1, ?_⟩
            rcases h2 with h2 | ⟨g, cap, cur, a, b, hgg, r⟩
            · exact .inl h2
            · exact .inr ⟨g, cap, cur, a, b, hag _ _ _ _ (by simp) hgg, r⟩
          · obtain ⟨u, hu, ht⟩ := hCR.tk i hi
            exact ⟨u, hu, (ht.keep (hag.mono (by simp))).at_⟩
        have HPC := Lib.hid hPc
        have HBE := Lib.hid hBe
        have hhr := hCR.hr
        have hbb := hCR.ho
        clear hCR hag hPc hBe e0 e1 e9
        gi_wp2_with ((with_reducible refine wpListIn_sel 28 ?_); (refine wpListIn_val rfl (r_load26 (.tmp 3) bo u0 u1 sv rfl rfl hbb) ?_; refine wpListIn_skip rfl (r_store26 (.tmp 2) (.tmp 28) rfl (w.heap.size + 1) _ #[u0, u1, sv] rfl rfl hhr info26s rfl h1c) ?_))

        exact bodyPost_ret (results_cell_row (P := Try.prog) (p := 2) rfl _ _ (w.heap.size + 1) 26 #[u0, u1, sv] (0, 0) _ rfl hrow Try.underlying26 rfl (by kernel_rfl)) rfl ⟨⟨_, _, _, rfl, HPC.out⟩, HBE.out⟩
theorem copied_T (w : World) (v0 v1 v2 : Value) (P : PcD) (hP : PcAt w v0 v1 v2 P) (h0 : P.orders.length ≤ 1000) (h1 : P.powers.length ≤ 1000) (h1s : ∀ k, k < P.powers.length → (P.powers.getD k []).length ≤ 1000)
    (h2 : P.conj.length ≤ 1000) (h2s : ∀ k, k < P.conj.length → (P.conj.getD k []).length ≤ 1000) (h3s : ∀ k, k < P.conj.length → ∀ i, i < (P.conj.getD k []).length → ((P.conj.getD k []).getD i []).length ≤ 1000) :
    Calls Try.prog 55 #[.agg #[v0, v1, v2]] w fun e w' => (∃ u0 u1 u2, e = .returned (.agg #[u0, u1, u2]) ∧ PcT w' u0 u1 u2 P) ∧ Below w.heap.size w w' :=
  callsIn_wide.1 (copied_in w v0 v1 v2 P hP h0 h1 h1s h2 h2s h3s)
theorem copied_any (w : World) (v0 v1 v2 : Value) (P : PcD) (hP : PcAt w v0 v1 v2 P) (h0 : P.orders.length ≤ 1000) (h1 : P.powers.length ≤ 1000) (h1s : ∀ k, k < P.powers.length → (P.powers.getD k []).length ≤ 1000)
    (h2 : P.conj.length ≤ 1000) (h2s : ∀ k, k < P.conj.length → (P.conj.getD k []).length ≤ 1000) (h3s : ∀ k, k < P.conj.length → ∀ i, i < (P.conj.getD k []).length → ((P.conj.getD k []).getD i []).length ≤ 1000) :
    Calls Try.prog 55 #[.agg #[v0, v1, v2]] w fun e w' => (∃ u0 u1 u2, e = .returned (.agg #[u0, u1, u2]) ∧ PcAt w' u0 u1 u2 P) ∧ Below w.heap.size w w' :=
  (copied_T w v0 v1 v2 P hP h0 h1 h1s h2 h2s h3s).mono fun _ _ ⟨⟨u0, u1, u2, he, hp⟩, hb⟩ => ⟨⟨u0, u1, u2, he, hp.at_⟩, hb⟩
end Go.Proofs
namespace Go.Proofs
open Go.RowKit Go.Proofs.Pc
/-- block bg is the group of P with rules in block br -/
def GrpAt (w : World) (bg br : Nat) (P : PcD) : Prop := ∃ u0 u1 u2, w.heap[bg]? = some (.cells #[.pointer (some ⟨br, 0, none⟩), u0, u1, u2] 64 (0, 0)) ∧ RulesAt w br P ∧ PcAt w u0 u1 u2 P
theorem GrpAt.below {w w' : World} {bg br : Nat} {P : PcD} (h : GrpAt w bg br P) (hb : Below w.heap.size w w') : GrpAt w' bg br P := by
  obtain ⟨u0, u1, u2, h1, h2, h3⟩ := h
  exact ⟨u0, u1, u2, (hb.block _ (Array.getElem?_eq_some_iff.1 h1).1).trans h1, (KC.of_below hb).rules h2, h3.below hb⟩
theorem GrpAt.live {w : World} {bg br : Nat} {P : PcD} (h : GrpAt w bg br P) : Live w bg br := by
  obtain ⟨u0, u1, u2, h1, -⟩ := h
  unfold Live
  rw [cell_of_row _ _ _ _ _ _ h1]; rfl
theorem GrpAt.rules {w : World} {bg br : Nat} {P : PcD} (h : GrpAt w bg br P) : RulesAt w br P := by
  obtain ⟨u0, u1, u2, -, h2, -⟩ := h
  exact h2
theorem sizes_of_valid {P : PcD} (hv : Valid P) : P.orders.length ≤ 1000 ∧ P.powers.length ≤ 1000 ∧ (∀ k, k < P.powers.length → (P.powers.getD k []).length ≤ 1000) ∧ P.conj.length ≤ 1000 ∧ (∀ k, k < P.conj.length → (P.conj.getD k []).length ≤ 1000) ∧
    (∀ k, k < P.conj.length → ∀ i, i < (P.conj.getD k []).length → ((P.conj.getD k []).getD i []).length ≤ 1000) := by
  have h12 := hv.n12
  have hn : P.n = P.orders.length := rfl
  refine ⟨by omega, by rw [hv.npow]; omega, fun k hk => ?_, by rw [hv.ncj]; omega, fun k hk => ?_, fun k hk i hi => ?_⟩
  · have := (hv.pow k (by rw [← hv.npow]; exact hk)).1
    unfold PcD.pow at this
    omega
  · have := hv.cjl k (by rw [← hv.ncj]; exact hk)
    have hk' : k < P.n := by rw [← hv.ncj]; exact hk
    omega
  · have hk' : k < P.n := by rw [← hv.ncj]; exact hk
    have h1 := hv.cjl k hk'
    have := (hv.cj k hk' i (by omega)).1
    unfold PcD.cj at this
    omega
theorem copied_valid {P : PcD} (hv : Valid P) (w : World) (v0 v1 v2 : Value) (hP : PcAt w v0 v1 v2 P) :
    Calls Try.prog 55 #[.agg #[v0, v1, v2]] w fun e w' => (∃ u0 u1 u2, e = .returned (.agg #[u0, u1, u2]) ∧ PcAt w' u0 u1 u2 P) ∧ Below w.heap.size w w' :=
  let ⟨a, b, c, d, e, f⟩ := sizes_of_valid hv
  copied_any w v0 v1 v2 P hP a b c d e f
theorem pc_slices {w : World} {v0 v1 v2 : Value} {P : PcD} (hP : PcAt w v0 v1 v2 P) : (∃ A c, v0 = .slice A P.orders.length c) ∧ (∃ A c, v1 = .slice A P.powers.length c) ∧ ∃ A c, v2 = .slice A P.conj.length c := by
  obtain ⟨A0, n0, h0, -⟩ := hP.1.open_
  obtain ⟨A1, n1, h1, -⟩ := hP.2.1.open_
  obtain ⟨A2, n2, h2, -⟩ := hP.2.2.open_
  exact ⟨⟨_, _, h0⟩, ⟨_, _, h1⟩, _, _, h2⟩
set_option maxRecDepth 100000 in
set_option maxHeartbeats 400000 in
theorem cons14_good (w : World) (v0 v1 v2 : Value) (P : PcD) (hP : PcAt w v0 v1 v2 P) (he : (checkD P).1 = 0) :
    Calls Try.prog 15 #[.agg #[v0, v1, v2]] w fun e w' => e = .returned (.tuple #[.bool (consB P), .int .i64 0]) ∧ Below w.heap.size w w' := by
  have hb0 : Below w.heap.size w (w.alloc (.cells #[v0, v1, v2] 26)) := (Below.refl _ _).alloc (Nat.le_refl _) _
  have HC := Lib.hid (of_good _ v0 v1 v2 P (hP.below hb0) he)
  have hv := valid_of_check he
  obtain ⟨⟨A0, c0, rfl⟩, ⟨A1, c1, rfl⟩, A2, c2, rfl⟩ := pc_slices hP
  have HB := Lib.hid hb0
  clear hP he hb0
  go_enter Try.func15, Try.ntmps15
  go_wp2_with (first
    | (go_at_call 49; (refine HC.out.mono ?_); rintro e w1 ⟨⟨br, rfl, hr, -⟩, hb1⟩)
    | (go_at_call 50; (refine (cons_any hv _ br hr).mono ?_); rintro e w2 ⟨rfl, hb2⟩))
  go_ret2
  exact ⟨rfl, HB.out.trans ((hb1.trans (hb2.mono hb1.size)).mono (by simp))⟩
set_option maxRecDepth 100000 in
set_option maxHeartbeats 400000 in
theorem new_inc (w : World) (v0 v1 v2 : Value) (P : PcD) (hP : PcAt w v0 v1 v2 P) (he : (checkD P).1 = 0) (hc : consB P = false) :
    Calls Try.prog 17 #[.agg #[v0, v1, v2]] w fun e w' => e = .returned (.tuple #[.pointer none, .int .i64 13]) ∧ Below w.heap.size w w' := by
  have hb0 : Below w.heap.size w (w.alloc (.cells #[v0, v1, v2] 26)) := (Below.refl _ _).alloc (Nat.le_refl _) _
  have HC := Lib.hid (of_good _ v0 v1 v2 P (hP.below hb0) he)
  have hv := valid_of_check he
  obtain ⟨⟨A0, c0, rfl⟩, ⟨A1, c1, rfl⟩, A2, c2, rfl⟩ := pc_slices hP
  have HB := Lib.hid hb0
  have HK := Lib.hid hc
  clear hP he hb0 hc
  go_enter Try.func17, Try.ntmps17
  go_wp2_with (first
    | (go_at_call 49; (refine HC.out.mono ?_); rintro e w1 ⟨⟨br, rfl, hr, -⟩, hb1⟩)
    | (go_at_call 50; (refine (cons_any hv _ br hr).mono ?_); rintro e w2 ⟨rfl, hb2⟩; rw [HK.out]))
  go_ret2
  exact ⟨rfl, HB.out.trans ((hb1.trans (hb2.mono hb1.size)).mono (by simp))⟩
set_option maxRecDepth 100000 in
set_option maxHeartbeats 400000 in
theorem new_good (w : World) (v0 v1 v2 : Value) (P : PcD) (hP : PcAt w v0 v1 v2 P) (he : (checkD P).1 = 0) (hc : consB P = true) :
    Calls Try.prog 17 #[.agg #[v0, v1, v2]] w fun e w' => (∃ bg br, e = .returned (.tuple #[.pointer (some ⟨bg, 0, none⟩), .int .i64 0]) ∧ GrpAt w' bg br P ∧ w.heap.size ≤ bg) ∧ Below w.heap.size w w' := by
  have hb0 : Below w.heap.size w (w.alloc (.cells #[v0, v1, v2] 26)) := (Below.refl _ _).alloc (Nat.le_refl _) _
  have HP := Lib.hid (hP.below hb0)
  have HC := Lib.hid (of_good _ v0 v1 v2 P (hP.below hb0) he)
  have hv := valid_of_check he
  obtain ⟨⟨A0, c0, rfl⟩, ⟨A1, c1, rfl⟩, A2, c2, rfl⟩ := pc_slices hP
  have hrw := heap_alloc_new w (.cells #[.slice A0 P.orders.length c0, .slice A1 P.powers.length c1, .slice A2 P.conj.length c2] 26)
  have HB := Lib.hid hb0
  have HK := Lib.hid hc
  clear hP he hb0 hc
  go_enter Try.func17, Try.ntmps17
  go_wp2_with (first
    | (go_at_call 49; (refine HC.out.mono ?_); rintro e w1 ⟨⟨br, rfl, hr, -⟩, hb1⟩)
    | (go_at_call 50; (refine (cons_any hv _ br hr).mono ?_); rintro e w2 ⟨rfl, hb2⟩; rw [HK.out]
       have hb3 := hb1.trans (hb2.mono hb1.size)
       have hrr := (KC.of_below hb2).rules hr
       have hrow := (hb3.block w.heap.size (by simp)).trans hrw
       have k0 := cell_of_row _ _ 0 _ _ _ hrow
       have k1 := cell_of_row _ _ 1 _ _ _ hrow
       have k2 := cell_of_row _ _ 2 _ _ _ hrow
       simp only [List.getElem?_toArray, List.getElem?_cons_zero, List.getElem?_cons_succ] at k0 k1 k2
       have HP2 := Lib.hid (HP.out.below hb3)
       have HRR := Lib.hid hrr
       have HB3 := Lib.hid (HB.out.trans (hb3.mono (by simp)))
       clear hb1 hb2 hr hrr hb3 hrow)
    | (go_at_call 55; (refine (copied_valid hv _ _ _ _ HP2.out).mono ?_); rintro e w3 ⟨⟨u0, u1, u2, rfl, hpc⟩, hb4⟩
       obtain ⟨⟨B0, d0, rfl⟩, ⟨B1, d1, rfl⟩, B2, d2, rfl⟩ := pc_slices hpc
       have HPC := Lib.hid hpc
       have HB4 := Lib.hid hb4
       clear hpc hb4))
  go_ret2
  have hal : Below w3.heap.size w3 (w3.alloc (.cells #[.pointer (some ⟨br, 0, none⟩), .slice B0 P.orders.length d0, .slice B1 P.powers.length d1, .slice B2 P.conj.length d2] 64)) := (Below.refl _ _).alloc (Nat.le_refl _) _
  have hbb := HB3.out.trans (HB4.out.mono HB3.out.size)
  refine ⟨⟨_, br, rfl, ⟨_, _, _, heap_alloc_new _ _, (KC.of_below (HB4.out.trans (hal.mono HB4.out.size))).rules HRR.out, HPC.out.below hal⟩, hbb.size⟩, hbb.alloc hbb.size _⟩
end Go.Proofs
