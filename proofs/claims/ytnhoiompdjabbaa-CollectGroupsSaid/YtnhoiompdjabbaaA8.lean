/- As Inv: slots at any destinations; one operation at the end that waits for all others; As Inv2; the invariant also knows which operations are done; Operations of copied; a frame behind a region with slots at any places; Words for the reference: a list of numbers in a block of its own; a copy by append; a presentation below a block number. -/
import Derived.Test.YtnhoiompdjabbaaA4
import Derived.Test.YtnhoiompdjabbaaA7
import Derived.Maps.AppendAt
import Derived.Deep.AppendLies
import Derived.Deep.AppendSrc
namespace Go.Proofs

/-- The frame but for the slots dm 0, .., dm (N-1). -/
structure SameM (a0 : Act) (dm : Nat → Nat) (N : Nat) (a : Act) : Prop where
  size : a.tmps.size = a0.tmps.size
  defers : a.defers = a0.defers
  out : ∀ t, (∀ i, i < N → dm i ≠ t) → a.tmps.getD t undef = a0.tmps.getD t undef
theorem SameM.refl (a0 : Act) (dm : Nat → Nat) (N : Nat) : SameM a0 dm N a0 := ⟨rfl, rfl, fun _ _ => rfl⟩
theorem SameM.put {a0 a : Act} {dm : Nat → Nat} {N i : Nat} (h : SameM a0 dm N a) (hi : i < N) (v : Value) : SameM a0 dm N (a.put (some (dm i)) v) :=
  ⟨by simpa [Act.put] using h.size, h.defers, fun t ht => by rw [← h.out t ht, put_getD_ne _ _ _ _ (ht i hi)]⟩

/-- Every edge leads back; each of the first N operations has a successor up to N. -/
structure Tailed1 (ops : Array Oper) (N : Nat) : Prop where
  size : ops.size = N + 1
  lex : ∀ (i : Nat) (o : Oper), ops[i]? = some o → ∀ e ∈ o.after.toList, e.on < i
  succ : ∀ i, i < N → ∃ (j : Nat) (o : Oper), i < j ∧ j ≤ N ∧ ops[j]? = some o ∧ ∃ e ∈ o.after.toList, e.on = i ∧ Region.binds .any e = true

def tailed1B (ops : Array Oper) (N : Nat) : Bool :=
  (ops.size == N + 1) && (List.range ops.size).all (fun i => match ops[i]? with | some o => o.after.toList.all fun e => decide (e.on < i) | none => true) &&
  (List.range N).all (fun i => (List.range (N + 1)).any fun j => decide (i < j) && (match ops[j]? with | some o => o.after.toList.any fun e => (e.on == i) && Region.binds .any e | none => false))

theorem tailed1_of {ops : Array Oper} {N : Nat} (h : tailed1B ops N = true) : Tailed1 ops N := by
  unfold tailed1B at h
  simp only [Bool.and_eq_true] at h
  obtain ⟨⟨h1, h2⟩, h3⟩ := h
  refine ⟨by simpa using h1, fun i o ho e he => ?_, fun i hi => ?_⟩
  · rw [List.all_eq_true] at h2
    have hi : i < ops.size := (Array.getElem?_eq_some_iff.1 ho).1
    have := h2 i (by simpa using hi)
    rw [ho] at this
    rw [List.all_eq_true] at this
    simpa using this e he
  · rw [List.all_eq_true] at h3
    have := h3 i (by simpa using hi)
    rw [List.any_eq_true] at this
    obtain ⟨j, hj, hjj⟩ := this
    rw [Bool.and_eq_true] at hjj
    obtain ⟨hij, hm⟩ := hjj
    cases ho : ops[j]? with
    | none => rw [ho] at hm; cases hm
    | some o =>
      rw [ho] at hm
      rw [List.any_eq_true] at hm
      obtain ⟨e, he, hee⟩ := hm
      rw [Bool.and_eq_true] at hee
      exact ⟨j, o, by simpa using hij, by simp at hj; omega, ho, e, he, by simpa using hee.1, hee.2⟩

section
variable {F : Fence} {n : Nat} {P : Program} {ops : Array Oper} {Q : Exit → Act → World → Prop}

theorem Tailed1.before {N : Nat} (ht : Tailed1 ops N) {listed : Array Bool} (hc : Closed ops listed) {o : Oper} (ho : ops[N]? = some o) (hp : ∀ e ∈ o.after.toList, Region.binds .any e = true → listed.getD e.on false = true) :
    ∀ k i, i < N → N - i ≤ k → listed.getD i false = true := by
  intro k
  induction k with
  | zero => intro i hi hk; omega
  | succ k ih =>
    intro i hi hk
    obtain ⟨j, oj, hij, hjN, hoj, e, he, rfl, hb⟩ := ht.succ i hi
    rcases Nat.lt_or_ge j N with h | h
    · exact hc j oj hoj (ih j h (by omega)) e he hb
    · have : j = N := by omega
      subst this
      rw [ho] at hoj
      cases hoj
      exact hp e he hb

theorem wpIn_region_one {id : Nat} {a0 : Act} {w : World} (hm : P.follows .mixedOrders = true) (dm : Nat → Nat) (N : Nat) (ht : Tailed1 ops N) (S : World → Prop) (Φ : Nat → Value → World → Prop) (G : World → World → Prop)
    (hdm : ∀ i j, i < N → j < N → dm i = dm j → i = j)
    (hΦ : ∀ i v w w', G w w' → Φ i v w → Φ i v w')
    (hsz : ∀ i, i < N → dm i < a0.tmps.size) (h0 : S w.drew)
    (hop : ∀ (i : Nat) (o : Oper) (a : Act) (w : World), i < N → ops[i]? = some o → S w → SameM a0 dm N a → (∀ e ∈ o.after.toList, Region.binds .any e = true → Φ e.on (a.tmps.getD (dm e.on) undef) w) →
      o.guard = none ∧ o.dst = some (dm i) ∧ o.wpIn F n P a w (fun a' w' => ∃ v, a' = a.put (some (dm i)) v ∧ S w' ∧ G w w' ∧ Φ i v w') Q)
    (hend : ∀ (a : Act) (w : World), S w → SameM a0 dm N a → (∀ i, i < N → Φ i (a.tmps.getD (dm i) undef) w) →
      wpOpIn F n P ops Q N (fun a' w' => Q .normal a' w') a w) :
    (Code.region id ops true).wpIn F n P Q a0 w := by
  refine wpIn_region_any hm ?_
  have hsize := ht.size
  refine wpAnyIn_inv (fun listed a w => Closed ops listed ∧
      ((listed.getD N false = false ∧ S w ∧ SameM a0 dm N a ∧ ∀ i, i < N → listed.getD i false = true → Φ i (a.tmps.getD (dm i) undef) w) ∨
       (listed.getD N false = true ∧ Q .normal a w))) ?_ ?_ ops.size _ a0 _ (by simp) ?_ ⟨fun i o ho h => ?_, .inl ⟨?_, h0, SameM.refl _ _ _, fun i hi h => ?_⟩⟩
  · rintro listed a w i hls ⟨hcl, hI⟩ hi
    obtain ⟨h1, h2, o, ho, hpre⟩ := ready_mem hi
    rw [getD_true_false (by omega)] at h2
    have hcl' : Closed ops (listed.setIfInBounds i true) := fun j oj hoj hl e he hb => by
      rw [getD_set_listed (by omega)] at hl ⊢
      by_cases eij : i = j
      · subst eij
        rw [ho] at hoj; cases hoj
        have := hpre e he hb
        split
        · rfl
        · exact this
      · rw [if_neg eij] at hl
        have := hcl j oj hoj hl e he hb
        split
        · rfl
        · exact this
    have hsetD : ∀ j, (listed.setIfInBounds i true).getD j false = if i = j then true else listed.getD j false := fun j => getD_set_listed (by omega)
    rcases hI with ⟨hN, hS, hsame, hsl⟩ | ⟨hN, hQ⟩
    · rcases Nat.lt_or_ge i N with hiN | hiN
      · obtain ⟨hg, hd, hwp⟩ := hop i o a w hiN ho hS hsame (fun e he hb => by
          have hl := hpre e he hb
          have hlt := ht.lex i o ho e he
          exact hsl e.on (by omega) hl)
        unfold wpOpIn
        rw [ho]
        simp only [Region.wanted, hg, if_true]
        refine Oper.wpIn_mono (fun a' w' h => ?_) hwp
        obtain ⟨v, rfl, hS', hG, hv⟩ := h
        refine ⟨hcl', .inl ⟨by rw [hsetD, if_neg (by omega)]; exact hN, hS', hsame.put hiN v, fun j hj hl => ?_⟩⟩
        by_cases e : i = j
        · subst e
          rw [put_getD_same _ _ _ (by rw [hsame.size]; exact hsz i hj)]
          exact hv
        · rw [put_getD_ne _ _ _ _ (fun h => e (hdm i j hiN hj h))]
          rw [hsetD, if_neg e] at hl
          exact hΦ j _ _ _ hG (hsl j hj hl)
      · have hi2 : i = N := by omega
        subst hi2
        have hall := ht.before hcl ho hpre
        refine wpOpIn_mono (fun a' w' h => ?_) (hend a w hS hsame (fun j hj => hsl j hj (hall _ j hj (Nat.le_refl _))))
        exact ⟨hcl', .inr ⟨by rw [hsetD, if_pos rfl], h⟩⟩
    · rcases Nat.lt_or_ge i N with hiN | hiN
      · obtain ⟨oN, hoN⟩ : ∃ o, ops[N]? = some o := ⟨ops[N]'(by omega), Array.getElem?_eq_getElem (by omega)⟩
        have := ht.before hcl hoN (hcl N oN hoN hN) _ i hiN (Nat.le_refl _)
        rw [h2] at this; cases this
      · have hi2 : i = N := by omega
        subst hi2
        rw [h2] at hN; cases hN
  · rintro listed a w hls ⟨hcl, hI⟩ hr
    have hready : ∀ i, i < ops.size → listed.getD i false = true := by
      intro i
      induction i using Nat.strongRecOn with
      | _ i ih =>
        intro hi
        rcases hl : listed.getD i false with _ | _
        · have hmem : i ∈ Region.ready .any ops listed := by
            simp only [Region.ready, List.mem_filter, List.mem_range, Bool.and_eq_true, Bool.not_eq_true']
            refine ⟨hi, by rw [getD_true_false (by omega)]; exact hl, ?_⟩
            rw [Array.getElem?_eq_getElem hi]
            simp only [Option.map_some, Option.getD_some]
            rw [Array.all_eq_true_iff_forall_mem]
            intro e he
            have hlt := ht.lex i _ (Array.getElem?_eq_getElem hi) e (by simpa using he)
            simp [ih e.on hlt (by omega)]
          rw [hr] at hmem; cases hmem
        · rfl
    rcases hI with ⟨hN, _⟩ | ⟨_, hQ⟩
    · rw [hready N (by omega)] at hN; cases hN
    · exact hQ
  · simp
  · have : (Array.replicate ops.size false).getD i false = false := by
      simp only [Array.getD_eq_getD_getElem?, Array.getElem?_replicate]; split <;> rfl
    rw [this] at h; cases h
  · simp only [Array.getD_eq_getD_getElem?, Array.getElem?_replicate]; split <;> rfl
  · have : (Array.replicate ops.size false).getD i false = false := by
      simp only [Array.getD_eq_getD_getElem?, Array.getElem?_replicate]; split <;> rfl
    rw [this] at h; cases h
end
end Go.Proofs
namespace Go.Proofs
section
variable {F : Fence} {n : Nat} {P : Program} {ops : Array Oper} {Q : Exit → Act → World → Prop}
theorem wpIn_region_ls {id : Nat} {a0 : Act} {w : World} (hm : P.follows .mixedOrders = true) (dm : Nat → Nat) (N : Nat) (ht : Tailed1 ops N) (S : (Nat → Bool) → World → Prop) (Φ : Nat → Value → World → Prop) (G : Nat → World → World → Prop)
    (hdm : ∀ i j, i < N → j < N → dm i = dm j → i = j)
    (hΦ : ∀ i j v w w', i < N → j < N → i ≠ j → G i w w' → Φ j v w → Φ j v w')
    (hsz : ∀ i, i < N → dm i < a0.tmps.size) (h0 : S (fun _ => false) w.drew)
    (hop : ∀ (ls : Nat → Bool) (i : Nat) (o : Oper) (a : Act) (w : World), i < N → ops[i]? = some o → S ls w → ls i = false → SameM a0 dm N a → (∀ e ∈ o.after.toList, Region.binds .any e = true → Φ e.on (a.tmps.getD (dm e.on) undef) w) →
      o.guard = none ∧ o.dst = some (dm i) ∧ o.wpIn F n P a w (fun a' w' => ∃ v, a' = a.put (some (dm i)) v ∧ S (fun j => if i = j then true else ls j) w' ∧ G i w w' ∧ Φ i v w') Q)
    (hend : ∀ (ls : Nat → Bool) (a : Act) (w : World), S ls w → (∀ i, i < N → ls i = true) → SameM a0 dm N a → (∀ i, i < N → Φ i (a.tmps.getD (dm i) undef) w) →
      wpOpIn F n P ops Q N (fun a' w' => Q .normal a' w') a w) :
    (Code.region id ops true).wpIn F n P Q a0 w := by
  refine wpIn_region_any hm ?_
  have hsize := ht.size
  refine wpAnyIn_inv (fun listed a w => Closed ops listed ∧
      ((listed.getD N false = false ∧ S (fun j => listed.getD j false) w ∧ SameM a0 dm N a ∧ ∀ i, i < N → listed.getD i false = true → Φ i (a.tmps.getD (dm i) undef) w) ∨
       (listed.getD N false = true ∧ Q .normal a w))) ?_ ?_ ops.size _ a0 _ (by simp) ?_ ⟨fun i o ho h => ?_, .inl ⟨?_, by rw [show (fun j => (Array.replicate ops.size false).getD j false) = (fun _ => false) from funext fun j => by simp only [Array.getD_eq_getD_getElem?, Array.getElem?_replicate]; split <;> rfl]; exact h0, SameM.refl _ _ _, fun i hi h => ?_⟩⟩
  · rintro listed a w i hls ⟨hcl, hI⟩ hi
    obtain ⟨h1, h2, o, ho, hpre⟩ := ready_mem hi
    rw [getD_true_false (by omega)] at h2
    have hcl' : Closed ops (listed.setIfInBounds i true) := fun j oj hoj hl e he hb => by
      rw [getD_set_listed (by omega)] at hl ⊢
      by_cases eij : i = j
      · subst eij
        rw [ho] at hoj; cases hoj
        have := hpre e he hb
        split
        · rfl
        · exact this
      · rw [if_neg eij] at hl
        have := hcl j oj hoj hl e he hb
        split
        · rfl
        · exact this
    have hsetD : ∀ j, (listed.setIfInBounds i true).getD j false = if i = j then true else listed.getD j false := fun j => getD_set_listed (by omega)
    rcases hI with ⟨hN, hS, hsame, hsl⟩ | ⟨hN, hQ⟩
    · rcases Nat.lt_or_ge i N with hiN | hiN
      · obtain ⟨hg, hd, hwp⟩ := hop _ i o a w hiN ho hS h2 hsame (fun e he hb => by
          have hl := hpre e he hb
          have hlt := ht.lex i o ho e he
          exact hsl e.on (by omega) hl)
        unfold wpOpIn
        rw [ho]
        simp only [Region.wanted, hg, if_true]
        refine Oper.wpIn_mono (fun a' w' h => ?_) hwp
        obtain ⟨v, rfl, hS', hG, hv⟩ := h
        refine ⟨hcl', .inl ⟨by rw [hsetD, if_neg (by omega)]; exact hN, by rw [show (fun j => (listed.setIfInBounds i true).getD j false) = (fun j => if i = j then true else listed.getD j false) from funext hsetD]; exact hS', hsame.put hiN v, fun j hj hl => ?_⟩⟩
        by_cases e : i = j
        · subst e
          rw [put_getD_same _ _ _ (by rw [hsame.size]; exact hsz i hj)]
          exact hv
        · rw [put_getD_ne _ _ _ _ (fun h => e (hdm i j hiN hj h))]
          rw [hsetD, if_neg e] at hl
          exact hΦ i j _ _ _ hiN hj e hG (hsl j hj hl)
      · have hi2 : i = N := by omega
        subst hi2
        have hall := ht.before hcl ho hpre
        refine wpOpIn_mono (fun a' w' h => ?_) (hend _ a w hS (fun j hj => hall _ j hj (Nat.le_refl _)) hsame (fun j hj => hsl j hj (hall _ j hj (Nat.le_refl _))))
        exact ⟨hcl', .inr ⟨by rw [hsetD, if_pos rfl], h⟩⟩
    · rcases Nat.lt_or_ge i N with hiN | hiN
      · obtain ⟨oN, hoN⟩ : ∃ o, ops[N]? = some o := ⟨ops[N]'(by omega), Array.getElem?_eq_getElem (by omega)⟩
        have := ht.before hcl hoN (hcl N oN hoN hN) _ i hiN (Nat.le_refl _)
        rw [h2] at this; cases this
      · have hi2 : i = N := by omega
        subst hi2
        rw [h2] at hN; cases hN
  · rintro listed a w hls ⟨hcl, hI⟩ hr
    have hready : ∀ i, i < ops.size → listed.getD i false = true := by
      intro i
      induction i using Nat.strongRecOn with
      | _ i ih =>
        intro hi
        rcases hl : listed.getD i false with _ | _
        · have hmem : i ∈ Region.ready .any ops listed := by
            simp only [Region.ready, List.mem_filter, List.mem_range, Bool.and_eq_true, Bool.not_eq_true']
            refine ⟨hi, by rw [getD_true_false (by omega)]; exact hl, ?_⟩
            rw [Array.getElem?_eq_getElem hi]
            simp only [Option.map_some, Option.getD_some]
            rw [Array.all_eq_true_iff_forall_mem]
            intro e he
            have hlt := ht.lex i _ (Array.getElem?_eq_getElem hi) e (by simpa using he)
            simp [ih e.on hlt (by omega)]
          rw [hr] at hmem; cases hmem
        · rfl
    rcases hI with ⟨hN, _⟩ | ⟨_, hQ⟩
    · rw [hready N (by omega)] at hN; cases hN
    · exact hQ
  · simp
  · have : (Array.replicate ops.size false).getD i false = false := by
      simp only [Array.getD_eq_getD_getElem?, Array.getElem?_replicate]; split <;> rfl
    rw [this] at h; cases h
  · simp only [Array.getD_eq_getD_getElem?, Array.getElem?_replicate]; split <;> rfl
  · have : (Array.replicate ops.size false).getD i false = false := by
      simp only [Array.getD_eq_getD_getElem?, Array.getElem?_replicate]; split <;> rfl
    rw [this] at h; cases h
end
end Go.Proofs
namespace Go.Proofs
open Go.RowKit Go.Proofs.Pc

theorem SameM.frame {a0 a : Act} {dm : Nat → Nat} {N : Nat} (h : SameM a0 dm N a) (n : Nat) (hn : a0.tmps.size = n) :
    a = { tmps := ((List.range n).map fun t => if (List.range N).any (fun i => dm i == t) then a.tmps.getD t undef else a0.tmps.getD t undef).toArray, defers := a0.defers } := by
  obtain ⟨t, d⟩ := a
  have hd := h.defers
  have hs := h.size
  have ho := h.out
  simp only at hd hs ho
  subst hd
  congr 1
  apply Array.ext'
  apply List.ext_getElem?
  intro i
  show t.toList[i]? = (List.map _ (List.range n))[i]?
  rw [List.getElem?_map]
  rcases Nat.lt_or_ge i n with hi | hi
  · rw [List.getElem?_range hi]
    have hti : i < t.size := by omega
    simp only [Option.map_some]
    have hg : t.toList[i]? = some (t.getD i undef) := by simp [Array.getD_eq_getD_getElem?, hti]
    rw [hg]
    refine congrArg some ?_
    by_cases hx : (List.range N).any (fun q => dm q == i) = true
    · rw [if_pos hx]
    · rw [if_neg hx]
      refine ho i (fun j hj e => hx ?_)
      rw [List.any_eq_true]
      exact ⟨j, by simpa using hj, by simpa using e⟩
  · rw [List.getElem?_eq_none (by simpa using (by omega : t.size ≤ i)), List.getElem?_eq_none (by simpa using hi)]
    rfl

theorem SameM.frameV {a0 a : Act} {dm : Nat → Nat} {N : Nat} (h : SameM a0 dm N a) (n : Nat) (hn : a0.tmps.size = n) :
    ∃ vs : Nat → Value, (∀ t, vs t = a.tmps.getD t undef) ∧ a = { tmps := ((List.range n).map fun t => if (List.range N).any (fun i => dm i == t) then vs t else a0.tmps.toList.getD t undef).toArray, defers := a0.defers } := by
  refine ⟨fun t => a.tmps.getD t undef, fun _ => rfl, (h.frame n hn).trans ?_⟩
  have : ∀ t, a0.tmps.getD t undef = a0.tmps.toList.getD t undef := fun t => by simp [Array.getD_eq_getD_getElem?, List.getD_eq_getElem?_getD]
  simp only [this]
theorem inj_of {dm : Nat → Nat} {N : Nat} (h : (List.range N).all (fun i => (List.range N).all fun j => (dm i != dm j) || (i == j)) = true) : ∀ i j, i < N → j < N → dm i = dm j → i = j := fun i j hi hj e => by
  rw [List.all_eq_true] at h
  have h1 := h i (by simpa using hi)
  rw [List.all_eq_true] at h1
  have h2 := h1 j (by simpa using hj)
  simpa [e] using h2
theorem lt_of {dm : Nat → Nat} {N n : Nat} (h : (List.range N).all (fun i => decide (dm i < n)) = true) : ∀ i, i < N → dm i < n := fun i hi => by
  rw [List.all_eq_true] at h
  simpa using h i (by simpa using hi)

section
variable {o : Oper} {a : Act} {w w' : World} {n : Nat} {next : Act → World → Prop} {Q : Exit → Act → World → Prop} {v : Value}
theorem wpW_skip (hrun : (execOp a.eval o).run Try.prog w = .ok .skip w') (h : next (a.put o.dst undef) w') : o.wpIn Fence.wide n Try.prog a w next Q :=
  ⟨fun _ _ => trivial, by rw [Fence.wide_round, Oper.semAt_none, hrun]; exact h⟩
theorem r_call1 {f : FuncId} (x : Operand) (u : Value) (T : Array TypeId) (ho : o.op = .call { callee := .value (.func f), args := #[x], argTypes := T }) (hx : a.eval x = u)
    (he : ∀ args w, (callFunc f args).run Try.prog w = .ok (.enter f args) w) : (execOp a.eval o).run Try.prog w = .ok (.enter f #[u]) w := by
  have hf : a.eval (.func f) = .func (.func f) #[] #[] := rfl
  unfold execOp
  simp only [ho, resolve, List.map_toArray, List.map_cons, List.map_nil, hx, hf]
  simp [go_sem, he]
theorem agg22 (w : World) : (isAgg 22).run Try.prog w = .ok false w := by kernel_rfl
theorem agg23 (w : World) : (isAgg 23).run Try.prog w = .ok false w := by kernel_rfl
theorem agg24 (w : World) : (isAgg 24).run Try.prog w = .ok false w := by kernel_rfl
theorem r_load1 (T : TypeId) (hT : ∀ w, (isAgg T).run Try.prog w = .ok false w) (x : Operand) (ad : Addr) (ho : o.op = .load T x) (hx : a.eval x = .pointer (some ad)) (hc : w.cell? ad = some v) : (execOp a.eval o).run Try.prog w = .ok (.value v) w := by
  unfold execOp
  simp only [ho, hx, Instr.loadAt, Instr.sureAddr, loadVar, Sem.run_bind, Sem.run_pure, Result.andThen_ok, hT]
  simp [go_sem, hc]
theorem fld26_0 (b : Nat) (w : World) : (Instr.fieldAt 26 (.pointer (some ⟨b, 0, none⟩)) 0).run Try.prog w = .ok (.pointer (some ⟨b, 0, none⟩)) w := by kernel_rfl
theorem fld26_1 (b : Nat) (w : World) : (Instr.fieldAt 26 (.pointer (some ⟨b, 0, none⟩)) 1).run Try.prog w = .ok (.pointer (some ⟨b, 1, none⟩)) w := by kernel_rfl
theorem fld26_2 (b : Nat) (w : World) : (Instr.fieldAt 26 (.pointer (some ⟨b, 0, none⟩)) 2).run Try.prog w = .ok (.pointer (some ⟨b, 2, none⟩)) w := by kernel_rfl
theorem build26 (A B : Option Addr) (n m c d : Nat) (w : World) : (Instr.build 26 #[(0, .slice A n c), (1, .slice B m d)]).run Try.prog w = .ok (.agg #[.slice A n c, .slice B m d, .slice none 0 0]) w := by kernel_rfl
theorem alloc26 (w : World) : (Instr.alloc 26 true (.tuple #[])).run Try.prog w = .ok (.pointer (some ⟨w.heap.size, 0, none⟩)) (w.alloc (.cells #[.slice none 0 0, .slice none 0 0, .slice none 0 0] 26)) := by kernel_rfl
theorem bslice24 (A : Option Addr) (n c : Nat) (w : World) : (Instr.buildSlice 24 1 #[(0, .slice A n c)]).run Try.prog w = .ok (.slice (some ⟨w.heap.size, 0, none⟩) 1 1) (w.alloc (.cells #[.slice A n c] 23)) := by kernel_rfl
theorem r_bld26 (x y : Operand) (A B : Option Addr) (n m c d : Nat) (ho : o.op = .build 26 #[(0, x), (1, y)]) (hx : a.eval x = .slice A n c) (hy : a.eval y = .slice B m d) :
    (execOp a.eval o).run Try.prog w = .ok (.value (.agg #[.slice A n c, .slice B m d, .slice none 0 0])) w := by
  have hb := build26 A B n m c d w
  unfold execOp
  simp only [ho, List.map_toArray, List.map_cons, List.map_nil, hx, hy, Sem.run_bind, hb, Result.andThen_ok]
  rfl
theorem r_alloc26 (ho : o.op = .alloc 26) : (execOp a.eval o).run Try.prog w = .ok (.value (.pointer (some ⟨w.heap.size, 0, none⟩))) (w.alloc (.cells #[.slice none 0 0, .slice none 0 0, .slice none 0 0] 26)) := by
  have hb := alloc26 w
  unfold execOp
  simp only [ho, Sem.run_bind, hb, Result.andThen_ok]
  rfl
theorem r_bs24 (x : Operand) (A : Option Addr) (m c : Nat) (ho : o.op = .buildSlice 24 1 #[(0, x)]) (hx : a.eval x = .slice A m c) :
    (execOp a.eval o).run Try.prog w = .ok (.value (.slice (some ⟨w.heap.size, 0, none⟩) 1 1)) (w.alloc (.cells #[.slice A m c] 23)) := by
  have hb := bslice24 A m c w
  unfold execOp
  simp only [ho, List.map_toArray, List.map_cons, List.map_nil, hx, Sem.run_bind, hb, Result.andThen_ok]
  rfl
theorem r_store26 (x y : Operand) (ho : o.op = .store 26 x y) (g : Nat) (old c' : Array Value) (hx : a.eval x = .pointer (some ⟨g, 0, none⟩)) (hy : a.eval y = .agg c') (hg : w.heap[g]? = some (.cells old 26 (0, 0)))
    (hi : (Try.prog.info? 26).map (·.size) = some c'.size) (hoo : old.size = c'.size) (h1 : c'.all (·.oneCell') = true) : (execOp a.eval o).run Try.prog w = .ok .skip (w.setRow g c') := by
  unfold execOp
  simp only [ho, hx, hy, Instr.storeAt, Instr.sureAddr, Sem.run_bind, Sem.run_pure, Result.andThen_ok, run_storeVar_row w g 26 26 old c' hg hi hoo h1]
theorem size24 (w : World) : (sizeOf 24).run Try.prog w = .ok 1 w := by kernel_rfl
theorem r_store24 (x y : Operand) (b j : Nat) (A : Option Addr) (m c : Nat) (ho : o.op = .store 24 x y) (hx : a.eval x = .pointer (some ⟨b, j, none⟩)) (hy : a.eval y = .slice A m c) (hc : (w.cell? ⟨b, j, none⟩).isSome = true) (hf : w.frozen? ⟨b, j, none⟩ = false) :
    (execOp a.eval o).run Try.prog w = .ok .skip (w.setCell ⟨b, j, none⟩ (.slice A m c)) := by
  unfold execOp
  simp only [ho, hx, hy, Instr.storeAt, Instr.sureAddr, storeVar, Sem.run_bind, Sem.run_pure, Result.andThen_ok, size24]
  obtain ⟨u, hu⟩ := Option.isSome_iff_exists.1 hc
  simp [go_sem, hu, hf]
theorem r_app (s x : Operand) (t : TypeId) {sv xv v' : Value} (ho : o.op = .call { callee := .builtin .append, args := #[s, x], argTypes := #[t, t] }) (hs : a.eval s = sv) (hx : a.eval x = xv)
    (hr : (Builtin.append_ #[t, t] o.type #[sv, xv]).run Try.prog w = .ok v' w') : (execOp a.eval o).run Try.prog w = .ok (.value v') w' := by
  unfold execOp
  simp only [ho, resolve, invoke, builtin, Sem.run_bind, Sem.run_pure, Result.andThen_ok, List.map_toArray, List.map_cons, List.map_nil, hs, hx, hr]
end
section
variable {o : Oper} {rest : List Oper} {ops : Array Oper} {a : Act} {w w' : World} {n : Nat} {Q : Exit → Act → World → Prop}
theorem wpListIn_selStore (T : TypeId) (x y : Nat) {F : Fence} {t : TypeId} {p : String} {af : Array Edge} {g : Option (Nat × Bool)} (h : wpListIn F n Try.prog ops Q (⟨none, .store T (.tmp x) (.tmp y), t, p, af, g⟩ :: rest) a w) : wpListIn F n Try.prog ops Q (⟨none, .store T (.tmp x) (.tmp y), t, p, af, g⟩ :: rest) a w := h
theorem wpListIn_skip (hg : o.guard = none) (hrun : (execOp a.eval o).run Try.prog w = .ok .skip w') (h : wpListIn Fence.wide n Try.prog ops Q rest (a.put o.dst undef) w') : wpListIn Fence.wide n Try.prog ops Q (o :: rest) a w :=
  wpListIn_plain hg fun _ hK => ⟨fun _ _ => trivial, by
    rw [Fence.wide_round, Oper.semAt_none, hrun]
    exact hK _ _ h⟩
end
theorem info23 : (Try.prog.info? 23).map (fun i => (i.zero, i.size, i.bytes)) = some (some (.slice none 0 0), 1, 24) := by kernel_rfl
theorem r_load26 {o : Oper} {a : Act} {w : World} (x : Operand) (b : Nat) (v0 v1 v2 : Value) (ho : o.op = .load 26 x) (hx : a.eval x = .pointer (some ⟨b, 0, none⟩)) (hc : w.heap[b]? = some (.cells #[v0, v1, v2] 26 (0, 0))) : (execOp a.eval o).run Try.prog w = .ok (.value (.agg #[v0, v1, v2])) w := by
  have hr : w.rangeAt b 0 [v0, v1, v2] := fun j v hj => by rw [cell_of_row _ _ _ _ _ _ hc, Nat.zero_add]; simpa using hj
  unfold execOp
  simp only [ho, hx, Sem.run_bind, run_loadAt_mid (P := Try.prog) w b 0 26 [v0, v1, v2] _ hr Try.underlying26 rfl (by kernel_rfl), Result.andThen_ok]
  rfl
theorem info26s : (Try.prog.info? 26).map (·.size) = some 3 := by kernel_rfl
theorem call84 (args : Array Value) (w : World) : (callFunc 84 args).run Try.prog w = .ok (.enter 84 args) w := enters_of Try.func84 (by kernel_rfl) rfl args w
theorem call85 (args : Array Value) (w : World) : (callFunc 85 args).run Try.prog w = .ok (.enter 85 args) w := enters_of Try.func85 (by kernel_rfl) rfl args w
end Go.Proofs
namespace Go.Proofs
open Go.RowKit Go.Proofs.Pc

/-- block b holds the numbers x (and may be longer) -/
def XsAt (w : World) (b : Nat) (x : List Int) : Prop := ∃ C : Array Value, w.heap[b]? = some (.cells C 3 (0, 0)) ∧ x.length ≤ C.size ∧ ∀ k, k < x.length → C[k]? = some (.int .i64 (x.getD k 0))
section
variable {w w' : World} {b k : Nat} {x y : List Int}
theorem XsAt.lt (h : XsAt w b x) : b < w.heap.size := by obtain ⟨C, hC, -⟩ := h; exact (Array.getElem?_eq_some_iff.1 hC).1
theorem XsAt.keep (h : XsAt w b x) (hk : w'.heap[b]? = w.heap[b]?) : XsAt w' b x := by
  obtain ⟨C, hC, h2, h3⟩ := h
  exact ⟨C, hk.trans hC, h2, h3⟩
theorem XsAt.below (h : XsAt w b x) (hb : Below w.heap.size w w') : XsAt w' b x := h.keep (hb.block _ h.lt)
theorem XsAt.grown {row : Option Nat} (h : XsAt w b x) (hg : w.grownBy w' row) (hr : some b ≠ row) : XsAt w' b x := h.keep (hg.block _ h.lt hr)
theorem XsAt.cell (h : XsAt w b x) (hk : k < x.length) : w.cell? ⟨b, k, none⟩ = some (.int .i64 (x.getD k 0)) := by
  obtain ⟨C, hC, -, h3⟩ := h
  rw [cell_of_row _ _ _ _ _ _ hC]; exact h3 k hk
theorem XsAt.frozen (h : XsAt w b x) (k : Nat) : w.frozen? ⟨b, k, none⟩ = false := by
  obtain ⟨C, hC, -⟩ := h
  simp [World.frozen?, hC]
theorem XsAt.congr (h : XsAt w b x) (hl : x.length = y.length) (he : ∀ k, k < x.length → x.getD k 0 = y.getD k 0) : XsAt w b y := by
  obtain ⟨C, hC, h2, h3⟩ := h
  exact ⟨C, hC, by omega, fun k hk => by rw [← he k (by omega)]; exact h3 k (by omega)⟩
theorem XsAt.set (h : XsAt w b x) (hk : k < x.length) (v : Int) : XsAt (w.setCell ⟨b, k, none⟩ (.int .i64 v)) b (x.set k v) := by
  obtain ⟨C, hC, h2, h3⟩ := h
  refine ⟨C.setIfInBounds k (.int .i64 v), by simp [World.setCell, Array.getElem?_modify, hC], by simpa using h2, fun j hj => ?_⟩
  have hj' : j < x.length := by simpa using hj
  rw [getD_set]
  by_cases e : k = j
  · subst e
    rw [if_pos ⟨rfl, hk⟩]
    have : k < C.size := by omega
    simp [this]
  · rw [if_neg (fun hh => e hh.1), Array.getElem?_setIfInBounds_ne e]
    exact h3 j hj'
theorem XsAt.ints (h : XsAt w b x) {n cap : Nat} (hn : x.length = n) (hc : n ≤ cap) (hm : cap ≤ 9223372036854775807) (hf : Fits x) : IntsAt w (.slice (some ⟨b, 0, none⟩) n cap) x := by
  refine ⟨⟨_, n, cap, rfl, by simp [_root_.Go.Proofs.ints, hn], hc, by simpa [maxLen] using hm, fun _ => ⟨b, 0, rfl, fun j v hv => ?_⟩⟩, hf⟩
  have hj : j < x.length := by have := (List.getElem?_eq_some_iff.1 hv).1; simpa [_root_.Go.Proofs.ints] using this
  rw [Nat.zero_add, h.cell hj, ← hv]
  simp [_root_.Go.Proofs.ints, hj, List.getD_eq_getElem?_getD]
theorem XsAt.of_alloc (w : World) (x : List Int) : XsAt (w.alloc (.cells (x.map (Value.int .i64)).toArray 3)) w.heap.size x :=
  ⟨_, heap_alloc_new w _, by simp, fun k hk => by simp [hk, List.getD_eq_getElem?_getD]⟩
end

/-- p reads as P by blocks below n₀ -/
def PcB (n₀ : Nat) (w : World) (v0 v1 v2 : Value) (P : PcD) : Prop := ∀ w' : World, (∀ k, k < n₀ → w'.heap[k]? = w.heap[k]?) → PcAt w' v0 v1 v2 P
theorem PcB.at_ {n₀ : Nat} {w : World} {v0 v1 v2 : Value} {P : PcD} (h : PcB n₀ w v0 v1 v2 P) : PcAt w v0 v1 v2 P := h w fun _ _ => rfl
theorem PcB.keep {n₀ : Nat} {w w' : World} {v0 v1 v2 : Value} {P : PcD} (h : PcB n₀ w v0 v1 v2 P) (hk : ∀ k, k < n₀ → w'.heap[k]? = w.heap[k]?) : PcB n₀ w' v0 v1 v2 P := fun w'' hw => h w'' fun k hk' => (hw k hk').trans (hk k hk')
theorem PcB.grown {n₀ bx : Nat} {w w' : World} {v0 v1 v2 : Value} {P : PcD} (h : PcB n₀ w v0 v1 v2 P) (hg : w.grownBy w' (some bx)) (hb : n₀ ≤ bx) (hx : bx < w.heap.size) : PcB n₀ w' v0 v1 v2 P :=
  h.keep fun k hk => hg.block k (by omega) (fun e => by cases e; omega)
theorem PcB.below {n₀ m : Nat} {w w' : World} {v0 v1 v2 : Value} {P : PcD} (h : PcB n₀ w v0 v1 v2 P) (hb : Below m w w') (hm : n₀ ≤ m) : PcB n₀ w' v0 v1 v2 P :=
  h.keep fun k hk => hb.block k (by omega)
theorem PcAt.pcB {w : World} {v0 v1 v2 : Value} {P : PcD} (h : PcAt w v0 v1 v2 P) : PcB w.heap.size w v0 v1 v2 P := fun _ hw => h.keep hw

section
variable {ops : Array Oper} {rest : List Oper} {o : Oper} {a : Act} {w w' : World} {Q : Exit → Act → World → Prop} {v : Value}
theorem wpList_sel (s : Nat) {op : Op} {t : TypeId} {p : String} {af : Array Edge} {g : Option (Nat × Bool)} (h : wpList Try.prog ops Q (⟨some s, op, t, p, af, g⟩ :: rest) a w) : wpList Try.prog ops Q (⟨some s, op, t, p, af, g⟩ :: rest) a w := h
theorem wpList_val (hg : o.guard = none) (hrun : (execOp a.eval o).run Try.prog w = .ok (.value v) w') (h : wpList Try.prog ops Q rest (a.put o.dst v) w') : wpList Try.prog ops Q (o :: rest) a w :=
  wpList_plain hg fun _ hK => by
    unfold Oper.wp
    rw [hrun]
    exact hK _ _ h
end

theorem info3p : ∃ i, Try.prog.info? 3 = some i ∧ i.zero = some (.int .i64 0) ∧ i.size = 1 ∧ i.bytes = 8 := by
  have h : (Try.prog.info? 3).map (fun i => (i.zero, i.size, i.bytes)) = some (some (.int .i64 0), 1, 8) := by kernel_rfl
  cases hq : Try.prog.info? 3 with
  | none => simp [hq] at h
  | some i => simp [hq] at h; exact ⟨i, rfl, h⟩
theorem src_ints {w : World} {v : Value} {y : List Int} (h : IntsAt w v y) : Src Try.prog 1 22 v y.length (ints y) w := by
  obtain ⟨⟨A, n, cap, rfl, hn, hc, hm, hr⟩, -⟩ := h
  have hl : n = y.length := by simpa [ints] using hn
  subst hl
  rcases Nat.eq_zero_or_pos y.length with h0 | h0
  · obtain rfl : y = [] := List.length_eq_zero_iff.1 h0
    cases A with
    | none => exact Src.ofNil w Try.underlying22 cap
    | some a => exact Src.ofSlice w Try.underlying22 a 0 cap [] rfl (fun j u hu => by simp at hu) (fun u hu => by cases hu)
  · obtain ⟨b, off, rfl, hrow⟩ := hr h0
    exact Src.ofSlice w Try.underlying22 _ _ cap (ints y) (by simp [ints]) (fun j u hu => by rw [Addr.add_lit]; exact hrow j u hu) (fun u hu => by obtain ⟨x, -, rfl⟩ := List.mem_map.1 hu; rfl)

/-- append([]int{}, y...): the copy lies in a block of its own -/
theorem run_copy {w : World} {b : Nat} {v : Value} {y : List Int} (hb : w.heap[b]? = some (.cells #[] 3 (0, 0))) (h : IntsAt w v y) (hl : y.length ≤ 1000) :
    ∃ (b' cap : Nat) (w' : World), (Builtin.append_ #[22, 22] 22 #[.slice (some ⟨b, 0, none⟩) 0 0, v]).run Try.prog w = .ok (.slice (some ⟨b', 0, none⟩) y.length cap) w' ∧
      Below w.heap.size w w' ∧ XsAt w' b' y ∧ y.length ≤ cap ∧ cap ≤ 9223372036854775807 ∧ (b' = b ∨ b' = w.heap.size) := by
  obtain ⟨i, hi, hz, hs, hby⟩ := info3p
  have hsrc := src_ints h
  rcases Nat.eq_zero_or_pos y.length with h0 | h0
  · obtain rfl : y = [] := List.length_eq_zero_iff.1 h0
    have := run_append_room_src (P := Try.prog) w 22 22 22 3 i Try.underlying22 hi b 0 0 0 v 0 [] (by rw [hs]; exact hsrc) (Nat.le_refl _) (fun j hj => absurd hj (by simp)) (fun j hj => absurd hj (by simp))
    exact ⟨b, 0, w, this, Below.refl _ _, ⟨_, hb, Nat.zero_le _, fun k hk => absurd hk (by simp)⟩, Nat.le_refl _, by simp, .inl rfl⟩
  · have hold : (Builtin.firstCells i.size 0 (.slice (some ⟨b, 0, none⟩) 0 0)).run Try.prog w.drew = .ok ([] : List Value).toArray w.drew := by
      rw [hs]
      exact run_firstCells_some w.drew 1 0 ⟨b, 0, none⟩ 0 0 [] rfl (fun j u hu => by simp at hu)
    have hg := run_append_grow_src (P := Try.prog) w 22 22 22 3 i (.int .i64 0) Try.underlying22 hi hz (some ⟨b, 0, none⟩) 0 0 [] hold v y.length (ints y) (by rw [hs]; exact hsrc) (by omega) (by omega) (growslice_fits (by omega) (by rw [hby]; omega))
    simp only [Nat.zero_add, List.nil_append] at hg
    refine ⟨w.heap.size, _, _, hg, ⟨rfl, rfl, rfl, by simp, fun k hk => (Below.heap_alloc w.drew _ k hk)⟩, ⟨_, heap_alloc_new w.drew _, by simp [ints], fun k hk => ?_⟩, grownCap_ge w _ _ _, ?_, .inr rfl⟩
    · rw [Array.getElem?_append_left (by simpa [ints] using hk)]
      simp [ints, hk, List.getD_eq_getElem?_getD]
    · have := grownCap_le_maxLen w y.length 0 3 (by unfold maxLen; omega)
      simpa [maxLen] using this
end Go.Proofs
