/- A region that draws its order, whatever it holds: each operation is shown once; A region that draws its order: what its slots hold lies in blocks of their own (footprints); some are written again by the operation that takes them; The walk of RewriteKnown; What the slots of a drawn region hold, each in blocks of its own (for the law of T2); Calls as operations of a drawn region; what Enumerate answers, by blocks; One operation at a time: what it runs to; (*coset.state).alive, join, merge; slices.Repeat of one number; A state in memory while a coset is added: rows, parents and queue each by itself; Operations that make or grow a list, one at a time; what stands while a row joins; The program's Images; The memory of least: which cosets are known, their least words, the layer and the next one; Conjugates of subgroups, plainly: the standard table with another base; The memory of CosetConjugates: the words of the conjugate are laid. -/
import Derived.Test.YtmmbmhjdnlmedaaTsCS5
import Derived.Test.YtmmbmhjdnlmedaaTsCS2
import Derived.BigRegion
import Derived.WalkMore
import Derived.Shelf.Bits.Mul64
import Derived.Laws.CopyOwn
import Derived.Test.YtmmbmhjdnlmedaaTsCS4
namespace Go.Proofs
open Go.RowKit Go.Shelf Go.Proofs.Ct Go.Maps
/-- The frame: slots whose operations are not listed are as they were. -/
structure Part (a0 : Act) (dm : Nat → Option Tmp) (N : Nat) (ls : Nat → Bool) (a : Act) : Prop where
  size : a.tmps.size = a0.tmps.size
  defers : a.defers = a0.defers
  out : ∀ t, (∀ i, i < N → ls i = true → dm i ≠ some t) → a.tmps.getD t undef = a0.tmps.getD t undef
theorem Part.put {a0 a : Act} {dm : Nat → Option Tmp} {N i : Nat} {ls : Nat → Bool} (h : Part a0 dm N ls a) (hi : i < N) (v : Value) : Part a0 dm N (fun j => if i = j then true else ls j) (a.put (dm i) v) := by
  refine ⟨?_, ?_, fun t ht => ?_⟩
  · cases hd : dm i with
    | none => exact h.size
    | some t => simpa [Act.put] using h.size
  · cases hd : dm i with
    | none => exact h.defers
    | some t => exact h.defers
  · have h1 : ∀ j, j < N → ls j = true → dm j ≠ some t := fun j hj hl => ht j hj (by simp [hl])
    have h2 := ht i hi (by rw [if_pos rfl])
    rw [← h.out t h1]
    cases hd : dm i with
    | none => rfl
    | some t' => exact put_getD_ne _ _ _ _ (fun e => h2 (by rw [hd, e]))
def slotv (a : Act) : Option Tmp → Value
  | some t => a.tmps.getD t undef
  | none => undef
def lexB (ops : Array Oper) : Bool := (List.range ops.size).all fun i => match ops[i]? with | some o => o.after.toList.all fun e => decide (e.on < i) || !Region.binds .any e | none => true
theorem lex_of {ops : Array Oper} (h : lexB ops = true) : ∀ (i : Nat) (o : Oper), ops[i]? = some o → ∀ e ∈ o.after.toList, Region.binds .any e = true → e.on < i := fun i o ho e he hb => by
  unfold lexB at h
  rw [List.all_eq_true] at h
  have hi : i < ops.size := (Array.getElem?_eq_some_iff.1 ho).1
  have := h i (by simpa using hi)
  rw [ho] at this
  rw [List.all_eq_true] at this
  have h2 := this e he
  rw [hb] at h2
  simpa using h2
section
variable {F : Fence} {n : Nat} {P : Program} {ops : Array Oper} {Q : Exit → Act → World → Prop}
theorem wpIn_region_all {id : Nat} {a0 : Act} {w : World} (hm : P.follows .mixedOrders = true) (N : Nat) (hN : ops.size = N) (dm : Nat → Option Tmp) (hlex : ∀ (i : Nat) (o : Oper), ops[i]? = some o → ∀ e ∈ o.after.toList, Region.binds .any e = true → e.on < i)
    (S : (Nat → Bool) → World → Prop) (Φ : Nat → Value → World → Prop) (G : Nat → World → World → Prop)
    (hdm : ∀ i j t, i < N → j < N → dm i = some t → dm j = some t → i = j)
    (hΦ : ∀ i j v w w', i < N → j < N → i ≠ j → G i w w' → Φ j v w → Φ j v w')
    (hsz : ∀ i t, i < N → dm i = some t → t < a0.tmps.size) (h0 : S (fun _ => false) w.drew)
    (hop : ∀ (ls : Nat → Bool) (i : Nat) (o : Oper) (a : Act) (w : World), i < N → ops[i]? = some o → S ls w → ls i = false → (∀ (j : Nat) (oj : Oper), ops[j]? = some oj → ls j = true → ∀ e ∈ oj.after.toList, Region.binds .any e = true → ls e.on = true) → Part a0 dm N ls a →
      (∀ e ∈ o.after.toList, Region.binds .any e = true → ls e.on = true ∧ Φ e.on (slotv a (dm e.on)) w) →
      wpOpIn F n P ops Q i (fun a' w' => ∃ v, a' = a.put (dm i) v ∧ S (fun j => if i = j then true else ls j) w' ∧ G i w w' ∧ (dm i = none → v = undef) ∧ Φ i v w') a w)
    (hend : ∀ (ls : Nat → Bool) (a : Act) (w : World), (∀ i, i < N → ls i = true) → S ls w → Part a0 dm N ls a → (∀ i, i < N → Φ i (slotv a (dm i)) w) → Q .normal a w) :
    (Code.region id ops true).wpIn F n P Q a0 w := by
  subst hN
  refine wpIn_region_any hm ?_
  refine wpAnyIn_inv (fun listed a w => Closed ops listed ∧ S (fun j => listed.getD j false) w ∧ Part a0 dm ops.size (fun j => listed.getD j false) a ∧ ∀ i, i < ops.size → listed.getD i false = true → Φ i (slotv a (dm i)) w) ?_ ?_ ops.size _ a0 _ (by simp) ?_ ⟨fun i o ho h => ?_, ?_, ⟨rfl, rfl, fun _ _ => rfl⟩, fun i hi h => ?_⟩
  · rintro listed a w i hls ⟨hcl, hS, hP, hsl⟩ hi
    obtain ⟨h1, h2, o, ho, hpre⟩ := ready_mem hi
    rw [getD_true_false (by omega)] at h2
    have hsetD : ∀ j, (listed.setIfInBounds i true).getD j false = if i = j then true else listed.getD j false := fun j => getD_set_listed (by omega)
    have hcl' : Closed ops (listed.setIfInBounds i true) := fun j oj hoj hl e he hb => by
      rw [hsetD] at hl ⊢
      by_cases eij : i = j
      · subst eij
        rw [ho] at hoj; cases hoj
        have := hpre e he hb
        split
        · rfl
        · exact this
      · rw [if_neg eij] at hl
        have := hcl j oj hoj hl e he hb
        split
        · rfl
        · exact this
    have hwp := hop _ i o a w h1 ho hS h2 (fun j oj hoj hl => hcl j oj hoj hl) hP (fun e he hb => ⟨hpre e he hb, hsl e.on (by have := hlex i o ho e he hb; omega) (hpre e he hb)⟩)
    refine wpOpIn_mono (fun a' w' h => ?_) hwp
    obtain ⟨v, rfl, hS', hG, hvn, hv⟩ := h
    rw [show (fun j => if i = j then true else listed.getD j false) = (fun j => (listed.setIfInBounds i true).getD j false) from (funext hsetD).symm] at hS'
    have hP' := hP.put h1 v
    rw [show (fun j => if i = j then true else listed.getD j false) = (fun j => (listed.setIfInBounds i true).getD j false) from (funext hsetD).symm] at hP'
    refine ⟨hcl', hS', hP', fun j hj hl => ?_⟩
    by_cases e : i = j
    · subst e
      have : slotv (a.put (dm i) v) (dm i) = v := by
        cases hdi : dm i with
        | none => rw [hvn hdi]; rfl
        | some t => exact put_getD_same _ _ _ (by rw [hP.size]; exact hsz i t h1 hdi)
      rw [this]
      exact hv
    · rw [hsetD, if_neg e] at hl
      have := hΦ i j _ _ _ h1 hj e hG (hsl j hj hl)
      have hv' : slotv (a.put (dm i) v) (dm j) = slotv a (dm j) := by
        cases hdj : dm j with
        | none => rfl
        | some t =>
          cases hdi : dm i with
          | none => rfl
          | some t' => exact put_getD_ne _ _ _ _ (fun e' => e (hdm i j t h1 hj (by rw [hdi, e']) hdj))
      rw [hv']
      exact this
  · rintro listed a w hls ⟨hcl, hS, hP, hsl⟩ hr
    have hready : ∀ i, i < ops.size → listed.getD i false = true := by
      intro i
      induction i using Nat.strongRecOn with
      | _ i ih =>
        intro hi
        rcases hl : listed.getD i false with _ | _
        · have hmem : i ∈ Region.ready .any ops listed := by
            simp only [Region.ready, List.mem_filter, List.mem_range, Bool.and_eq_true, Bool.not_eq_true']
            refine ⟨hi, by rw [getD_true_false (by omega)]; exact hl, ?_⟩
            rw [Array.getElem?_eq_getElem hi]
            simp only [Option.map_some, Option.getD_some]
            rw [Array.all_eq_true_iff_forall_mem]
            intro e he
            by_cases hb : Region.binds .any e = true
            · have hlt := hlex i _ (Array.getElem?_eq_getElem hi) e (by simpa using he) hb
              simp [ih e.on hlt (by omega)]
            · simp [hb]
          rw [hr] at hmem; cases hmem
        · rfl
    exact hend _ a w hready hS hP (fun i hi => hsl i hi (hready i hi))
  · simp
  · have : (Array.replicate ops.size false).getD i false = false := by
      simp only [Array.getD_eq_getD_getElem?, Array.getElem?_replicate]; split <;> rfl
    rw [this] at h; cases h
  · rw [show (fun j => (Array.replicate ops.size false).getD j false) = (fun _ => false) from funext fun j => by simp only [Array.getD_eq_getD_getElem?, Array.getElem?_replicate]; split <;> rfl]
    exact h0
  · have : (Array.replicate ops.size false).getD i false = false := by
      simp only [Array.getD_eq_getD_getElem?, Array.getElem?_replicate]; split <;> rfl
    rw [this] at h; cases h
end
theorem not_yet {ops : Array Oper} {ls : Nat → Bool} (hcl : ∀ (j : Nat) (oj : Oper), ops[j]? = some oj → ls j = true → ∀ e ∈ oj.after.toList, Region.binds .any e = true → ls e.on = true) (j : Nat) {oj : Oper} (hoj : ops[j]? = some oj) (e : Edge) (he : e ∈ oj.after.toList) (hb : Region.binds .any e = true) (h : ls e.on = false) : ls j = false := by
  cases hj : ls j with
  | false => rfl
  | true => rw [hcl j oj hoj hj e he hb] at h; cases h
theorem dm_out {dm : Nat → Option Tmp} {N t : Nat} {ls : Nat → Bool} (h : (List.range N).all (fun i => !(dm i == some t)) = true) : ∀ i, i < N → ls i = true → dm i ≠ some t := fun i hi _ e => by
  rw [List.all_eq_true] at h
  have := h i (by simpa using hi)
  rw [e] at this
  simp at this
theorem dm_out1 {dm : Nat → Option Tmp} {N t k : Nat} {ls : Nat → Bool} (hk : ls k = false) (h : (List.range N).all (fun i => !(dm i == some t) || i == k) = true) : ∀ i, i < N → ls i = true → dm i ≠ some t := fun i hi hl e => by
  rw [List.all_eq_true] at h
  have := h i (by simpa using hi)
  rw [e] at this
  have h2 : i = k := by simpa using this
  rw [h2, hk] at hl
  cases hl
theorem dm_inj {dm : Nat → Option Tmp} {N : Nat} (h : (List.range N).all (fun i => (List.range N).all fun j => (i == j) || (dm i == none) || !(dm i == dm j)) = true) : ∀ i j t, i < N → j < N → dm i = some t → dm j = some t → i = j := fun i j t hi hj e1 e2 => by
  rw [List.all_eq_true] at h
  have h1 := h i (by simpa using hi)
  rw [List.all_eq_true] at h1
  have h2 := h1 j (by simpa using hj)
  rw [e1, e2] at h2
  simpa using h2
theorem dm_lt {dm : Nat → Option Tmp} {N n : Nat} (h : (List.range N).all (fun i => match dm i with | some t => decide (t < n) | none => true) = true) : ∀ i t, i < N → dm i = some t → t < n := fun i t hi e => by
  rw [List.all_eq_true] at h
  have := h i (by simpa using hi)
  rw [e] at this
  simpa using this
/-- The frame behind the region, written out. -/
theorem Part.frame {a0 a : Act} {dm : Nat → Option Tmp} {N : Nat} {ls : Nat → Bool} (h : Part a0 dm N ls a) (n : Nat) (hn : a0.tmps.size = n) :
    ∃ vs : Nat → Value, (∀ t, vs t = a.tmps.getD t undef) ∧ a = { tmps := ((List.range n).map fun t => if (List.range N).any (fun i => dm i == some t) then vs t else a0.tmps.toList.getD t undef).toArray, defers := a0.defers } := by
  refine ⟨fun t => a.tmps.getD t undef, fun _ => rfl, ?_⟩
  obtain ⟨t, d⟩ := a
  have hd := h.defers
  have hs := h.size
  have ho := h.out
  simp only at hd hs ho
  subst hd
  congr 1
  apply Array.ext'
  apply List.ext_getElem?
  intro i
  rcases Nat.lt_or_ge i n with hi | hi
  · have hit : i < t.size := by omega
    have hg : t.toList[i]? = some (t.getD i undef) := by simp [Array.getD, hit]
    rw [hg]
    simp only [List.getElem?_map, List.getElem?_range hi, Option.map_some]
    congr 1
    by_cases hx : (List.range N).any (fun q => dm q == some i) = true
    · rw [if_pos hx]
    · rw [if_neg hx]
      rw [ho i (fun j hj _ e => hx ?_)]
      · simp [Array.getD_eq_getD_getElem?, List.getD_eq_getElem?_getD]
      · rw [List.any_eq_true]
        exact ⟨j, by simpa using hj, by simpa using e⟩
  · rw [List.getElem?_eq_none (by simpa using (by omega : t.size ≤ i)), List.getElem?_eq_none (by simpa using hi)]
end Go.Proofs
namespace Go.Proofs
open Go.RowKit Go.Shelf Go.Proofs.Ct Go.Maps
/-- what an operation may do: it turns blocks of the slots that it takes alone, and makes new ones -/
structure Step (N : Nat) (wr : Nat → Bool) (us : Nat → Nat → Bool) (O : Nat → Nat → Prop) (i : Nat) (O' : Nat → Prop) (w w' : World) : Prop where
  size : w.heap.size ≤ w'.heap.size
  keep : ∀ k, k < w.heap.size → (∀ j, j < N → us i j = true → wr j = true → ¬ O j k) → w'.heap[k]? = w.heap[k]?
  foot : ∀ k, O' k → k < w'.heap.size ∧ (w.heap.size ≤ k ∨ ∃ j, j < N ∧ us i j = true ∧ O j k ∧ (wr i = true → wr j = true))
section
variable {F : Fence} {n : Nat} {P : Program} {ops : Array Oper} {Q : Exit → Act → World → Prop}
end
end Go.Proofs
namespace Go.Proofs
open Go.RowKit Go.Shelf Go.Proofs.Ct Go.Maps
theorem ints_blk {w : World} {b : Nat} {xs : List Int} (h : w.heap[b]? = some (.cells (ints xs).toArray 3 (0, 0))) (hf : Fits xs) {n : Nat} (hn : xs.length = n) (hm : n ≤ 1000) : IntsAt w (.slice (some ⟨b, 0, none⟩) n n) xs := by
  subst hn
  have hl : xs.length ≤ 9223372036854775807 := by omega
  refine ⟨⟨_, xs.length, xs.length, rfl, by simp [ints], Nat.le_refl _, by simpa [maxLen] using hl, fun _ => ⟨b, 0, rfl, fun j u hu => ?_⟩⟩, hf⟩
  rw [cell_of_row _ _ _ _ _ _ h, Nat.zero_add]
  simpa using hu
/-- rows in a block -/
theorem tab_blk {w : World} {b : Nat} {us : List Value} {xs : List (List Int)} {e : TypeId} (hb : w.heap[b]? = some (.cells us.toArray e (0, 0))) {n : Nat} (hn : us.length = n) (hl : us.length = xs.length) (hm : us.length ≤ 1000) (h : ∀ i, i < xs.length → IntsAt w (us.getD i undef) (xs.getD i [])) :
    Tab w (.slice (some ⟨b, 0, none⟩) n n) xs := by
  subst hn
  have hl9 : us.length ≤ 9223372036854775807 := by omega
  refine ⟨us, ⟨_, us.length, us.length, rfl, rfl, Nat.le_refl _, by simpa [maxLen] using hl9, fun _ => ⟨b, 0, rfl, fun j u hu => ?_⟩⟩, hl, fun i hi => ?_⟩
  · rw [cell_of_row _ _ _ _ _ _ hb, Nat.zero_add]
    simpa using hu
  · have hi' : i < us.length := by omega
    refine ⟨us.getD i undef, ?_, h i hi⟩
    simp [List.getD_eq_getElem?_getD, hi']
theorem fits_lit {xs : List Int} (h : (xs.all fun x => decide (-1000 ≤ x) && decide (x ≤ 1000)) = true) : Fits xs := fun x hx => by
  have := List.all_eq_true.1 h x hx
  simp at this
  omega
theorem build40s (g : Int) (A : Option Addr) (n c : Nat) (w : World) : (Instr.build 27 #[(0, .int .i64 g), (1, .slice A n c)]).run Try.prog w = .ok (.agg #[.int .i64 g, .slice A n c]) w := by kernel_rfl
section
variable {o : Oper} {a : Act} {w w' : World} {n : Nat} {v : Value}
theorem r_build40s (x y : Operand) (g : Int) (A : Option Addr) (m c : Nat) (ho : o.op = .build 27 #[(0, x), (1, y)]) (hx : a.eval x = .int .i64 g) (hy : a.eval y = .slice A m c) : (execOp a.eval o).run Try.prog w = .ok (.value (.agg #[.int .i64 g, .slice A m c])) w := by
  have hb := build40s g A m c w
  unfold execOp
  simp only [ho, List.map_toArray, List.map_cons, List.map_nil, hx, hy, Sem.run_bind, hb, Result.andThen_ok]
  rfl
end
/-- what a slot of the drawn region holds -/
inductive SP where
  | eq (v : Value) | ints (l : List Int) | tab (l : List (List Int)) | pres (g : Int) (l : List (List Int)) | any
def SP.holds : SP → Value → World → Prop
  | .eq u, v, _ => v = u
  | .ints l, v, w => IntsAt w v l
  | .tab l, v, w => ∃ A c, v = .slice A l.length c ∧ Tab w v l
  | .pres g l, v, w => ∃ A c, v = .agg #[.int .i64 g, .slice A l.length c] ∧ Tab w (.slice A l.length c) l
  | .any, _, _ => True
theorem SP.keep {s : SP} {v : Value} {w w' : World} (h : Below w.heap.size w w') : s.holds v w → s.holds v w' := by
  cases s with
  | eq u => exact id
  | ints l => exact fun k => k.below h
  | tab l => exact fun ⟨A, c, e, k⟩ => ⟨A, c, e, kept_tab.below k h⟩
  | pres g l => exact fun ⟨A, c, e, k⟩ => ⟨A, c, e, kept_tab.below k h⟩
  | any => exact id
section
variable {o : Oper} {a : Act} {w w' : World} {n : Nat} {v : Value}
end
end Go.Proofs
namespace Go.Proofs
open Go.RowKit Go.Shelf Go.Proofs.Ct Go.Maps
/-- u reads as the rows ys by the blocks of F -/
def TabS (F : Nat → Prop) (w : World) (u : Value) (ys : List (List Int)) : Prop := ∃ vs, (∀ w', Ag F w w' → Sl w' u vs) ∧ RowsF F w vs ys
/-- reading alone -/
def RdT (F : Nat → Prop) (w : World) (u : Value) (ys : List (List Int)) : Prop := ∀ w', Ag F w w' → Tab w' u ys
section
variable {F G : Nat → Prop} {w w' : World} {u : Value} {ys : List (List Int)}
theorem TabS.keep (h : TabS F w u ys) (ha : Ag F w w') : TabS F w' u ys := by
  obtain ⟨vs, h1, h2⟩ := h
  exact ⟨vs, fun w'' h' => h1 w'' (ha.trans h'), h2.keep ha fun _ h => h⟩
theorem TabS.mono (h : TabS F w u ys) (hg : ∀ k, F k → G k) : TabS G w u ys := by
  obtain ⟨vs, h1, h2⟩ := h
  exact ⟨vs, fun w' h' => h1 w' fun k hk => h' k (hg k hk), h2.keep (Ag.refl _ _) hg⟩
theorem TabS.tab (h : TabS F w u ys) : Tab w u ys := by
  obtain ⟨vs, h1, h2⟩ := h
  exact ⟨vs, h1 w (Ag.refl _ _), h2.1, fun i hi => let ⟨x, hx, hr⟩ := h2.2 i hi; ⟨x, hx, hr.at_⟩⟩
theorem TabS.rd (h : TabS F w u ys) : RdT F w u ys := fun _ ha => (h.keep ha).tab
theorem RdT.keep (h : RdT F w u ys) (ha : Ag F w w') : RdT F w' u ys := fun w'' h' => h w'' (ha.trans h')
theorem RdT.mono (h : RdT F w u ys) (hg : ∀ k, F k → G k) : RdT G w u ys := fun w' h' => h w' fun k hk => h' k (hg k hk)
theorem RdT.tab (h : RdT F w u ys) : Tab w u ys := h w (Ag.refl _ _)
theorem TabS.of_own {e : TypeId} {base : Nat} (h : OwnT e base F w u ys) (hv : ∀ r, u.ownBlock = some r → G r) (hg : ∀ k, F k → G k) : TabS G w u ys := by
  obtain ⟨vs, h1, h2⟩ := h
  exact ⟨vs, fun w' ha => sl_of_owns (owns_keep h1 fun r hr => ha r (hv r hr)), h2.keep (Ag.refl _ _) hg⟩
end
/-- what a slot holds -/
inductive FP where
  | any | eq (v : Value) | ints (l : List Int) | tab (l : List (List Int)) | rd (l : List (List Int)) | own (l : List Int) | ownT (l : List (List Int)) | box (e : TypeId) (cs : Array Value) | enum (t : List (List Int)) (a b c : Int) | tup (l : List Int) (e : Int) | tupT (l : List (List Int)) (e : Int)
def Fb (base : Nat) (O : Nat → Prop) : Nat → Prop := fun k => k < base ∨ O k
def FP.holds (base : Nat) : FP → Value → (Nat → Prop) → World → Prop
  | .any, _, _, _ => True
  | .eq u, v, _, _ => v = u
  | .ints l, v, O, w => ∃ A c, v = .slice A l.length c ∧ IntsF (Fb base O) w (.slice A l.length c) l
  | .tab l, v, O, w => ∃ A c, v = .slice A l.length c ∧ TabS (Fb base O) w (.slice A l.length c) l
  | .rd l, v, O, w => ∃ A c, v = .slice A l.length c ∧ RdT (Fb base O) w (.slice A l.length c) l
  | .own l, v, O, w => ∃ A c, v = .slice A l.length c ∧ OwnI base w (.slice A l.length c) l ∧ ∀ r, (Value.slice A l.length c).ownBlock = some r → O r
  | .ownT l, v, O, w => ∃ A c F, v = .slice A l.length c ∧ OwnT 24 base F w (.slice A l.length c) l ∧ (∀ k, F k → Fb base O k ∧ k < w.heap.size ∧ (Value.slice A l.length c).ownBlock ≠ some k) ∧ ∀ r, (Value.slice A l.length c).ownBlock = some r → O r
  | .box e cs, v, O, w => ∃ q, v = .pointer (some ⟨q, 0, none⟩) ∧ O q ∧ w.heap[q]? = some (.cells cs e (0, 0))
  | .enum t a b c, v, O, w => ∃ A n, v = .tuple #[.slice A t.length n, .agg #[.int .i64 a, .int .i64 b, .int .i64 0], .int .i64 c] ∧ RdT (Fb base O) w (.slice A t.length n) t
  | .tup l e, v, O, w => ∃ A n, v = .tuple #[.slice A l.length n, .int .i64 e] ∧ IntsF (Fb base O) w (.slice A l.length n) l
  | .tupT l e, v, O, w => ∃ A n, v = .tuple #[.slice A l.length n, .int .i64 e] ∧ RdT (Fb base O) w (.slice A l.length n) l
section
variable {base : Nat} {O O' : Nat → Prop} {W0 w w' : World} {v : Value}
theorem ag_fb (_hb : W0.heap.size = base) (h1 : Below base W0 w) (h2 : Below base W0 w') (h : ∀ k, O k → w'.heap[k]? = w.heap[k]?) : Ag (Fb base O) w w' := fun k hk => by
  rcases hk with hk | hk
  · rw [h1.block k (by omega), h2.block k (by omega)]
  · exact h k hk
theorem FP.keep {p : FP} (hb : W0.heap.size = base) (h1 : Below base W0 w) (h2 : Below base W0 w') (hs : w.heap.size ≤ w'.heap.size) (h : ∀ k, O k → w'.heap[k]? = w.heap[k]?) : p.holds base v O w → p.holds base v O w' := by
  have ha := ag_fb hb h1 h2 h
  cases p with
  | any => exact id
  | eq u => exact id
  | ints l => exact fun ⟨A, c, e, k⟩ => ⟨A, c, e, k.keep ha⟩
  | tab l => exact fun ⟨A, c, e, k⟩ => ⟨A, c, e, k.keep ha⟩
  | rd l => exact fun ⟨A, c, e, k⟩ => ⟨A, c, e, k.keep ha⟩
  | own l => exact fun ⟨A, c, e, k, k2⟩ => ⟨A, c, e, owns_keep k fun r hr => h r (k2 r hr), k2⟩
  | ownT l => exact fun ⟨A, c, F, e, k, k2, k3⟩ => ⟨A, c, F, e, k.keep (fun r hr => h r (k3 r hr)) (fun x hx => ha x (k2 x hx).1) (fun _ h => h), fun x hx => ⟨(k2 x hx).1, Nat.lt_of_lt_of_le (k2 x hx).2.1 hs, (k2 x hx).2.2⟩, k3⟩
  | box e cs => exact fun ⟨q, e, k, k2⟩ => ⟨q, e, k, (h q k).trans k2⟩
  | enum t a b c => exact fun ⟨A, n, e, k⟩ => ⟨A, n, e, k.keep ha⟩
  | tup l x => exact fun ⟨A, n, e, k⟩ => ⟨A, n, e, k.keep ha⟩
  | tupT l x => exact fun ⟨A, n, e, k⟩ => ⟨A, n, e, k.keep ha⟩
theorem FP.mono {p : FP} (hO : ∀ k, O k → O' k) : p.holds base v O w → p.holds base v O' w := by
  have hF : ∀ k, Fb base O k → Fb base O' k := fun k hk => hk.imp id (hO k)
  cases p with
  | any => exact id
  | eq u => exact id
  | ints l => exact fun ⟨A, c, e, k⟩ => ⟨A, c, e, k.mono hF⟩
  | tab l => exact fun ⟨A, c, e, k⟩ => ⟨A, c, e, k.mono hF⟩
  | rd l => exact fun ⟨A, c, e, k⟩ => ⟨A, c, e, k.mono hF⟩
  | own l => exact fun ⟨A, c, e, k, k2⟩ => ⟨A, c, e, k, fun r hr => hO r (k2 r hr)⟩
  | ownT l => exact fun ⟨A, c, F, e, k, k2, k3⟩ => ⟨A, c, F, e, k, fun x hx => ⟨hF x (k2 x hx).1, (k2 x hx).2⟩, fun r hr => hO r (k3 r hr)⟩
  | box e cs => exact fun ⟨q, e, k, k2⟩ => ⟨q, e, hO q k, k2⟩
  | enum t a b c => exact fun ⟨A, n, e, k⟩ => ⟨A, n, e, k.mono hF⟩
  | tup l x => exact fun ⟨A, n, e, k⟩ => ⟨A, n, e, k.mono hF⟩
  | tupT l x => exact fun ⟨A, n, e, k⟩ => ⟨A, n, e, k.mono hF⟩
end
/-- all that an operation may claim as its own -/
def Mx (N : Nat) (wr : Nat → Bool) (us : Nat → Nat → Bool) (O : Nat → Nat → Prop) (i : Nat) (w w' : World) : Nat → Prop := fun k => k < w'.heap.size ∧ (w.heap.size ≤ k ∨ ∃ j, j < N ∧ us i j = true ∧ O j k ∧ (wr i = true → wr j = true))
section
variable {N : Nat} {wr : Nat → Bool} {us : Nat → Nat → Bool} {O : Nat → Nat → Prop} {i : Nat} {w w' : World}
theorem Step.below (h : Below w.heap.size w w') : Step N wr us O i (Mx N wr us O i w w') w w' := ⟨h.size, fun k hk _ => h.block k hk, fun _ h => h⟩
theorem Step.same : Step N wr us O i (Mx N wr us O i w w) w w := Step.below (Below.refl _ _)
theorem Step.grown {row : Option Nat} (h : w.grownBy w' row) (hr : ∀ r, row = some r → ∃ j, j < N ∧ us i j = true ∧ wr j = true ∧ O j r) : Step N wr us O i (Mx N wr us O i w w') w w' := ⟨h.size, fun k hk hn => h.block k hk fun e => by
  obtain ⟨j, h1, h2, h3, h4⟩ := hr k e.symm
  exact hn j h1 h2 h3 h4, fun _ h => h⟩
end
theorem grown_below {w w' W0 : World} {base : Nat} {row : Option Nat} (hb : W0.heap.size = base) (h0 : Below base W0 w) (h : w.grownBy w' row) (hr : ∀ r, row = some r → base ≤ r) : Below base W0 w' :=
  ⟨h.os.trans h0.os, h.tape.trans h0.tape, h.output.trans h0.output, Nat.le_trans h0.size h.size, fun k hk => (h.block k (by have := h0.size; omega) fun e => by have := hr k e.symm; omega).trans (h0.block k hk)⟩
section
variable {o : Oper} {a : Act} {w w' : World} {n : Nat} {v : Value}
theorem r_extract (k : Nat) (x : Operand) (vs : Array Value) (ho : o.op = .extract x k) (hx : a.eval x = .tuple vs) (hk : vs[k]? = some v) : (execOp a.eval o).run Try.prog w = .ok (.value v) w := by
  unfold execOp
  simp only [ho, hx]
  simp [go_sem, hk]
theorem own_new (w : World) : OwnI w.heap.size (w.alloc (.cells #[] 3)) (.slice (some ⟨w.heap.size, 0, none⟩) 0 0) [] := by
  refine ⟨rfl, .inr ⟨w.heap.size, 0, #[], rfl, Nat.le_refl _, heap_alloc_new w _, Nat.le_refl _, by simp [maxLen], rfl, by simp [ints]⟩⟩
end
theorem FP.app_ints {t ty : TypeId} (ht : Try.prog.underlying t = some (.slice 3)) {w : World} {base : Nat} {O1 : Nat → Prop} {v : Value} {xs : List Int} (h : (FP.own xs).holds base v O1 w) {u : Value} {ys : List Int} (hu : IntsAt w u ys)
    (hx : xs.length ≤ 1000000) (hy : ys.length ≤ 1000000) (hb : base ≤ w.heap.size) :
    ∃ A' c' w', (Builtin.append_ #[t, t] ty #[v, u]).run Try.prog w = .ok (.slice A' (xs ++ ys).length c') w' ∧ w.grownBy w' v.ownBlock ∧ (∀ r, v.ownBlock = some r → O1 r ∧ base ≤ r) ∧
      ∀ O' : Nat → Prop, (∀ k, O1 k → k < w.heap.size → O' k) → (∀ k, w.heap.size ≤ k → k < w'.heap.size → O' k) → (FP.own (xs ++ ys)).holds base (.slice A' (xs ++ ys).length c') O' w' := by
  obtain ⟨A, c, rfl, o1, r1⟩ := h
  obtain ⟨A', c', w', hr, ho, hg, hw⟩ := Go.Proofs.app_ints ty t ht w base _ xs o1 u ys hu hx hy hb
  refine ⟨A', c', w', hr, hg, fun r hr => ⟨r1 r hr, (owns_block o1 r hr).1⟩, fun O' p1 p3 => ⟨A', c', rfl, ho, fun r hr => ?_⟩⟩
  rcases hw with hw | ⟨q, hw, hwq⟩
  · rw [hw] at hr
    exact p1 r (r1 r hr) (owns_lt o1 hr)
  · have e : q = r := by rw [hw] at hr; exact Option.some.inj hr
    subst e
    exact p3 q hwq (owns_lt ho hw)
end Go.Proofs
namespace Go.Proofs
open Go.RowKit Go.Shelf Go.Proofs.Ct Go.Maps
section
variable {o : Oper} {a : Act} {w w' : World} {n : Nat} {v : Value} {ops : Array Oper}
theorem idx_offs {T E : TypeId} (hu : Try.prog.underlying T = some (.slice E)) (hs : ∀ w, (sizeOf E).run Try.prog w = .ok 1 w) (g off m c i : Nat) (hi : i < m) (w : World) :
    (Instr.indexAt T (.slice (some ⟨g, off, none⟩) m c) (.int .i64 (i : Int))).run Try.prog w = .ok (.pointer (some ⟨g, off + i, none⟩)) w := by
  have h1 : (0 : Int) ≤ (i : Int) ∧ (i : Int) < (m : Int) := ⟨by omega, by omega⟩
  have h2 := Addr.add_mid g off i
  simp [Instr.indexAt, asIntOf, run_underlying hu, hs, h2, hi]
end
section
variable {N : Nat} {wr : Nat → Bool} {us : Nat → Nat → Bool} {O : Nat → Nat → Prop} {i j : Nat} {w w' W0 : World} {base : Nat} {v : Value}
end
end Go.Proofs
namespace Go.Proofs
open Go.RowKit Go.Shelf Go.Proofs.Ct Go.Maps
section
variable {o : Oper} {a : Act} {w w' : World} {n : Nat} {next : Act → World → Prop} {Q : Exit → Act → World → Prop} {v : Value}
theorem wpW_skip (hrun : (execOp a.eval o).run Try.prog w = .ok .skip w') (h : next (a.put o.dst undef) w') : o.wpIn Fence.wide n Try.prog a w next Q :=
  ⟨fun _ _ => trivial, by rw [Fence.wide_round, Oper.semAt_none, hrun]; exact h⟩
theorem r_nil (x : Operand) (ad : Addr) (ho : o.op = .nilCheck x) (hx : a.eval x = .pointer (some ad)) : (execOp a.eval o).run Try.prog w = .ok (.value (.pointer (some ad))) w := by
  unfold execOp; simp only [ho, hx]; rfl
theorem agg3 (w : World) : (isAgg 3).run Try.prog w = .ok false w := by kernel_rfl
theorem agg24 (w : World) : (isAgg 23).run Try.prog w = .ok false w := by kernel_rfl
theorem r_load1 (T : TypeId) (hT : ∀ w, (isAgg T).run Try.prog w = .ok false w) (x : Operand) (ad : Addr) (ho : o.op = .load T x) (hx : a.eval x = .pointer (some ad)) (hc : w.cell? ad = some v) : (execOp a.eval o).run Try.prog w = .ok (.value v) w := by
  unfold execOp
  simp only [ho, hx, Instr.loadAt, Instr.sureAddr, loadVar, Sem.run_bind, Sem.run_pure, Result.andThen_ok, hT]
  simp [go_sem, hc]
theorem size3 (w : World) : (sizeOf 3).run Try.prog w = .ok 1 w := by kernel_rfl
theorem r_idx {T : Nat} (x y : Operand) (ad i : Value) (ho : o.op = .indexAddr T x y) (hx : a.eval x = ad) (hy : a.eval y = i) (hf : (Instr.indexAt T ad i).run Try.prog w = .ok v w) : (execOp a.eval o).run Try.prog w = .ok (.value v) w := by
  unfold execOp; simp only [ho, hx, hy, Sem.run_bind, hf, Result.andThen_ok]; rfl
theorem r_store1 (T : TypeId) (x y : Operand) (ad : Addr) (u v : Value) (ho : o.op = .store T x y) (hx : a.eval x = .pointer (some ad)) (hy : a.eval y = v) (_h1 : ad.spot = none) (_hc : w.cell? ad = some u) (_hf : w.frozen? ad = false) (ht : (Instr.storeAt T (.pointer (some ad)) v).run Try.prog w = .ok () (w.setCell ad v)) : (execOp a.eval o).run Try.prog w = .ok .skip (w.setCell ad v) := by
  unfold execOp
  simp only [ho, hx, hy, Sem.run_bind, ht, Result.andThen_ok]
  rfl
end
end Go.Proofs
namespace Go.Proofs
open Go.RowKit Go.Shelf Go.Proofs.Ct Go.Maps
theorem box_set {w : World} {b : Nat} {C : Array Value} {T : TypeId} (hb : w.heap[b]? = some (.cells C T (0, 0))) (k : Nat) (v : Value) : (w.setCell ⟨b, k, none⟩ v).heap[b]? = some (.cells (C.setIfInBounds k v) T (0, 0)) := by
  simp [World.setCell, Array.getElem?_modify, hb]
section
variable {b wd lim : Nat} {w : World} {s s' : St} {vr vp vq : Value}
end
end Go.Proofs
namespace Go.Proofs
open Go.Shelf
end Go.Proofs
namespace Go.Proofs
open Go.RowKit Go.Proofs.Ct Go.Shelf
/-- k letters x, then noughts, c in all -/
def rp (x : Int) (k c : Nat) : List Value := List.replicate k (.int .i64 x) ++ List.replicate (c - k) (.int .i64 0)
end Go.Proofs
namespace Go.Proofs
open Go.RowKit Go.Shelf Go.Proofs.Ct Go.Maps
/-- append of one element, wherever it lies -/
theorem run_push_at {t ty e : TypeId} {z : Value} {bytes : Nat} (ht : Try.prog.underlying t = some (.slice e)) (hi : ∃ i, Try.prog.info? e = some i ∧ i.zero = some z ∧ i.size = 1 ∧ i.bytes = bytes) (hz : z.cells.size = 1) (hby : bytes ≤ 1000)
    (w : World) (base : Nat) (v : Value) (n : Nat) (xs : List Value) (hown : w.ownsRow base e 1 v n xs) (x : Value) (h1 : x.oneCell' = true) (hn : n ≤ 10000000) (hb : base ≤ w.heap.size) (h : Nat) (hx : w.cell? ⟨h, 0, none⟩ = some x) :
    ∃ A' c' w', (Builtin.append_ #[t, t] ty #[v, .slice (some ⟨h, 0, none⟩) 1 1]).run Try.prog w = .ok (.slice A' (n + 1) c') w' ∧ w'.ownsRow base e 1 (.slice A' (n + 1) c') (n + 1) (xs ++ [x]) ∧
      w.grownBy w' v.ownBlock ∧ ((Value.slice A' (n + 1) c').ownBlock = v.ownBlock ∨ ∃ r, (Value.slice A' (n + 1) c').ownBlock = some r ∧ w.heap.size ≤ r) := by
  obtain ⟨i, hi, hz', hs, hb'⟩ := hi
  have hnews : ∀ j u, [x][j]? = some u → w.cell? ((⟨h, 0, none⟩ : Addr).add j) = some u := fun j u hu => by
    match j, hu with
    | 0, hu => rw [Addr.add_lit, Nat.add_zero, hx]; simpa using hu
  obtain ⟨v', w', hr, hown', hg, -, hw⟩ := run_append_own_at (P := Try.prog) w base t ty e i z 1 bytes ht hi hz' hs hb' hz (by omega) v n xs hown ⟨h, 0, none⟩ 1 1 [x] rfl hnews (fun u hu => by simp at hu; rw [hu]; exact h1) (by unfold maxLen; omega)
    (by have : (n + 1) * bytes ≤ 10000001 * 1000 := Nat.mul_le_mul (by omega) hby
        omega) hb
  obtain ⟨A', c', rfl⟩ := owns_form hown'
  refine ⟨A', c', w', hr, hown', hg, ?_⟩
  rcases hw with hw | hw
  · exact .inl hw
  · exact .inr ⟨_, hw, Nat.le_refl _⟩
/-- rows, parents and queue in memory, with nothing between them -/
structure CoreN (base : Nat) (w : World) (t : Tb) (q : List Nat) (P : List Int) (vr vp vq : Value) (bl cs : Nat → Nat) : Prop where
  out : w.ownsRow base 23 1 vr t.length ((List.range t.length).map fun i => .slice (some ⟨bl i, 0, none⟩) (t.row i).length (cs i))
  row : ∀ i, i < t.length → base ≤ bl i ∧ XsAt w (bl i) (t.row i) ∧ (t.row i).length ≤ cs i ∧ cs i ≤ 9223372036854775807
  inj : ∀ i j, i < t.length → j < t.length → bl i = bl j → i = j
  par : OwnI base w vp P
  que : OwnI base w vq (nats q)
  sepP : ∀ i, i < t.length → vp.ownBlock ≠ some (bl i)
  sepQ : ∀ i, i < t.length → vq.ownBlock ≠ some (bl i)
  pq : ∀ r, vp.ownBlock = some r → vq.ownBlock ≠ some r
section
variable {base : Nat} {w w' : World} {t : Tb} {q : List Nat} {P : List Int} {vr vp vq : Value} {bl cs : Nat → Nat}
theorem CoreN.keep (h : CoreN base w t q P vr vp vq bl cs) (hk : ∀ k C e, base ≤ k → w.heap[k]? = some (.cells C e (0, 0)) → (e = 3 ∨ e = 23) → w'.heap[k]? = w.heap[k]?) : CoreN base w' t q P vr vp vq bl cs := by
  refine ⟨owns_keep h.out fun r hr => ?_, fun i hi => ?_, h.inj, owns_keep h.par fun r hr => ?_, owns_keep h.que fun r hr => ?_, h.sepP, h.sepQ, h.pq⟩
  · obtain ⟨a, C, hC⟩ := owns_block h.out r hr
    exact hk r C 23 a hC (.inr rfl)
  · obtain ⟨a, b, c⟩ := h.row i hi
    obtain ⟨C, hC, -⟩ := id b
    exact ⟨a, b.keep (hk _ C 3 a hC (.inl rfl)), c⟩
  · obtain ⟨a, C, hC⟩ := owns_block h.par r hr
    exact hk r C 3 a hC (.inl rfl)
  · obtain ⟨a, C, hC⟩ := owns_block h.que r hr
    exact hk r C 3 a hC (.inl rfl)
theorem CoreN.below (h : CoreN base w t q P vr vp vq bl cs) (hb : Below w.heap.size w w') : CoreN base w' t q P vr vp vq bl cs :=
  h.keep fun k _C _e _ hC _ => hb.block k (Array.getElem?_eq_some_iff.1 hC).1
theorem CoreN.other (h : CoreN base w t q P vr vp vq bl cs) {b : Nat} {C0 : Array Value} {T : TypeId} (hb : w.heap[b]? = some (.cells C0 T (0, 0))) (h3 : T ≠ 3) (h24 : T ≠ 23) (k : Nat) (v : Value) : CoreN base (w.setCell ⟨b, k, none⟩ v) t q P vr vp vq bl cs :=
  h.keep fun j C e _ hC he => Below.heap_setCell w ⟨b, k, none⟩ v j fun e' => by
    have e'' : j = b := e'
    rw [e'', hb] at hC
    cases hC
    rcases he with he | he <;> simp_all
theorem row_append (t : Tb) (x : List Int) (i : Nat) : Tb.row (t ++ [x]) i = if i < t.length then t.row i else if i = t.length then x else [] := by
  unfold Tb.row
  rw [List.getD_eq_getElem?_getD, List.getElem?_append]
  by_cases h : i < t.length
  · simp [h, List.getD_eq_getElem?_getD]
  · by_cases h2 : i = t.length
    · subst h2; simp
    · rw [if_neg h, if_neg h, if_neg h2, List.getElem?_eq_none (by simp; omega)]
      rfl
/-- a row joins -/
theorem CoreN.pushRow (h : CoreN base w t q P vr vp vq bl cs) (hbw : base ≤ w.heap.size) {g h0 m : Nat} {x : List Int} (hg : base ≤ g) (hx : XsAt w g x) (hm : x.length = m) (hm1 : m ≤ 1000) (hn : ∀ i, i < t.length → bl i ≠ g) (hp : vp.ownBlock ≠ some g) (hq : vq.ownBlock ≠ some g) (hc : w.cell? ⟨h0, 0, none⟩ = some (.slice (some ⟨g, 0, none⟩) m m)) (hl : t.length ≤ 9000000) :
    ∃ A c w', (Builtin.append_ #[48, 48] 48 #[vr, .slice (some ⟨h0, 0, none⟩) 1 1]).run Try.prog w = .ok (.slice A (t.length + 1) c) w' ∧ CoreN base w' (t ++ [x]) q P (.slice A (t.length + 1) c) vp vq (fun i => if i = t.length then g else bl i) (fun i => if i = t.length then m else cs i) ∧ w.grownBy w' vr.ownBlock := by
  obtain ⟨A, c, w', hr, ho, hgr, -⟩ := run_push_at (t := 48) (ty := 48) Try.underlying48 info24p rfl (by omega) w base vr t.length _ h.out (.slice (some ⟨g, 0, none⟩) m m) rfl (by omega) hbw h0 hc
  have hne : ∀ (k : Nat) (C : Array Value), w.heap[k]? = some (.cells C 3 (0, 0)) → w'.heap[k]? = w.heap[k]? := fun k C hC => hgr.block k (Array.getElem?_eq_some_iff.1 hC).1 fun e => by
    obtain ⟨-, C', hC'⟩ := owns_block h.out k e.symm
    rw [hC] at hC'
    cases hC'
  have hlen : (t ++ [x]).length = t.length + 1 := by simp
  refine ⟨A, c, w', hr, ⟨?_, fun i hi => ?_, fun i j hi hj e => ?_, owns_keep h.par fun k hk => ?_, owns_keep h.que fun k hk => ?_, fun i hi => ?_, fun i hi => ?_, h.pq⟩, hgr⟩
  · rw [hlen]
    have e : ((List.range (t.length + 1)).map fun i => (.slice (some ⟨(if i = t.length then g else bl i), 0, none⟩) (Tb.row (t ++ [x]) i).length (if i = t.length then m else cs i) : Value)) = (List.range t.length).map (fun i => (.slice (some ⟨bl i, 0, none⟩) (t.row i).length (cs i) : Value)) ++ [.slice (some ⟨g, 0, none⟩) m m] := by
      rw [List.range_succ, List.map_append]
      refine congr (congrArg (fun a b : List Value => a ++ b) ?_) ?_
      · refine List.map_congr_left fun i hi => ?_
        have hi' : i < t.length := List.mem_range.1 hi
        rw [if_neg (by omega), if_neg (by omega), row_append, if_pos hi']
      · rw [List.map_cons, List.map_nil, if_pos rfl, if_pos rfl, row_append, if_neg (Nat.lt_irrefl _), if_pos rfl, hm]
    rw [e]
    exact ho
  · rw [hlen] at hi
    by_cases e : i = t.length
    · subst e
      obtain ⟨C, hC, -⟩ := id hx
      simp only [if_true, row_append, Nat.lt_irrefl, if_false]
      exact ⟨hg, hx.keep (hne _ C hC), by omega, by omega⟩
    · have hi' : i < t.length := by omega
      obtain ⟨a, b, d⟩ := h.row i hi'
      obtain ⟨C, hC, -⟩ := id b
      simp only [if_neg e, row_append, if_pos hi']
      exact ⟨a, b.keep (hne _ C hC), d⟩
  · rw [hlen] at hi hj
    by_cases e1 : i = t.length
    · by_cases e2 : j = t.length
      · omega
      · simp only [if_pos e1, if_neg e2] at e
        exact absurd e.symm (hn j (by omega))
    · by_cases e2 : j = t.length
      · simp only [if_neg e1, if_pos e2] at e
        exact absurd e (hn i (by omega))
      · simp only [if_neg e1, if_neg e2] at e
        exact h.inj i j (by omega) (by omega) e
  · obtain ⟨-, C, hC⟩ := owns_block h.par k hk
    exact hne k C hC
  · obtain ⟨-, C, hC⟩ := owns_block h.que k hk
    exact hne k C hC
  · rw [hlen] at hi
    by_cases e : i = t.length
    · simp only [if_pos e]; exact hp
    · simp only [if_neg e]; exact h.sepP i (by omega)
  · rw [hlen] at hi
    by_cases e : i = t.length
    · simp only [if_pos e]; exact hq
    · simp only [if_neg e]; exact h.sepQ i (by omega)
end
end Go.Proofs
namespace Go.Proofs
open Go.RowKit Go.Shelf Go.Proofs.Ct Go.Maps
section
variable {o : Oper} {a : Act} {w w' : World} {n : Nat} {v : Value}
theorem r_len (x : Operand) (T : TypeId) (A : Option Addr) (m c : Nat) {E : TypeId} (hT : Try.prog.underlying T = some (.slice E)) (ho : o.op = .call { callee := .builtin .len, args := #[x], argTypes := #[T] }) (hx : a.eval x = .slice A m c) : (execOp a.eval o).run Try.prog w = .ok (.value (.int .i64 (m : Int))) w := by
  unfold execOp
  simp only [ho, resolve, invoke, builtin, Sem.run_bind, Sem.run_pure, Result.andThen_ok, List.map_toArray, List.map_cons, List.map_nil, hx]
  simp [Builtin.len_, run_underlying hT, goInt]
end
/-- what an operation may turn: nothing that lies above N, and nothing of a state unless it is the operation z -/
def Still (N z : Nat) (i : Nat) (w w' : World) : Prop := (∀ k, N ≤ k → k < w.heap.size → w'.heap[k]? = w.heap[k]?) ∧ (i ≠ z → ∀ (k : Nat) (C : Array Value) (e : TypeId), w.heap[k]? = some (.cells C e (0, 0)) → (e = 3 ∨ e = 23) → w'.heap[k]? = w.heap[k]?)
theorem Still.same {N z i : Nat} {w : World} : Still N z i w w := ⟨fun _ _ _ => rfl, fun _ _ _ _ _ _ => rfl⟩
theorem Still.of_below {N z i : Nat} {w w' : World} (h : Below w.heap.size w w') : Still N z i w w' := ⟨fun k _ hk => h.block k hk, fun _ k _C _e hC _ => h.block k (Array.getElem?_eq_some_iff.1 hC).1⟩
theorem Still.grown {N z : Nat} {w w' : World} {row : Option Nat} (h : w.grownBy w' row) (hr : ∀ r, row = some r → r < N) : Still N z z w w' :=
  ⟨fun k hk hl => h.block k hl fun e => by have := hr k e.symm; omega, fun e => absurd rfl e⟩
/-- what each operation of the region that adds a row has brought -/
def RowF (base N m : Nat) (t : Tb) (q : List Nat) (P : List Int) (b : Nat) (vr vp vq : Value) (bl cs : Nat → Nat) : Nat → Value → World → Prop
  | 5, v, w => ∃ g, v = .slice (some ⟨g, 0, none⟩) 1 1 ∧ N ≤ g ∧ w.heap[g]? = some (.cells #[.int .i64 (-1)] 3 (0, 0))
  | 10, v, w => ∃ g, v = .slice (some ⟨g, 0, none⟩) m m ∧ N ≤ g ∧ w.heap[g]? = some (.cells (rp (-1) m m).toArray 3 (0, 0))
  | 11, v, w => ∃ g h, v = .slice (some ⟨h, 0, none⟩) 1 1 ∧ N ≤ g ∧ N ≤ h ∧ w.heap[g]? = some (.cells (rp (-1) m m).toArray 3 (0, 0)) ∧ w.heap[h]? = some (.cells #[.slice (some ⟨g, 0, none⟩) m m] 23 (0, 0))
  | 12, v, w => ∃ A c g, v = .slice A (t.length + 1) c ∧ CoreN base w (t ++ [List.replicate m (-1)]) q P v vp vq (fun i => if i = t.length then g else bl i) (fun i => if i = t.length then m else cs i)
  | i, v, _ => v = ([.pointer (some ⟨b, 0, none⟩), .pointer (some ⟨b, 0, none⟩), .pointer (some ⟨b, 0, none⟩), .pointer (some ⟨b, 2, none⟩), vr, undef, .pointer (some ⟨b, 0, none⟩), .pointer (some ⟨b, 0, none⟩), .pointer (some ⟨b, 0, none⟩), .int .i64 (m : Int), undef, undef, undef, .pointer (some ⟨b, 0, none⟩), .pointer (some ⟨b, 2, none⟩), undef] : List Value).getD i undef
theorem RowF.keep {base N m b : Nat} {t : Tb} {q : List Nat} {P : List Int} {vr vp vq : Value} {bl cs : Nat → Nat} : ∀ (i j : Nat) (v : Value) (w w' : World), i < 16 → j < 16 → i ≠ j → Still N 12 i w w' → RowF base N m t q P b vr vp vq bl cs j v w → RowF base N m t q P b vr vp vq bl cs j v w' := by
  intro i j v w w' hi hj hne hS h
  have hk : ∀ (g : Nat) (o : Obj), N ≤ g → w.heap[g]? = some o → w'.heap[g]? = some o := fun g o hg ho => (hS.1 g hg (Array.getElem?_eq_some_iff.1 ho).1).trans ho
  have hcases : j = 5 ∨ j = 10 ∨ j = 11 ∨ j = 12 ∨ (j ≠ 5 ∧ j ≠ 10 ∧ j ≠ 11 ∧ j ≠ 12) := by omega
  rcases hcases with rfl | rfl | rfl | rfl | ⟨h1, h2, h3, h4⟩
  · obtain ⟨g, e, hg, hc⟩ := h
    exact ⟨g, e, hg, hk g _ hg hc⟩
  · obtain ⟨g, e, hg, hc⟩ := h
    exact ⟨g, e, hg, hk g _ hg hc⟩
  · obtain ⟨g, h0, e, hg, hh, hc, hc2⟩ := h
    exact ⟨g, h0, e, hg, hh, hk g _ hg hc, hk h0 _ hh hc2⟩
  · obtain ⟨A, c, g, e, hC⟩ := h
    exact ⟨A, c, g, e, hC.keep fun k C e0 _ hC' he => hS.2 hne k C e0 hC' he⟩
  · unfold RowF at h ⊢
    split at h <;> first | contradiction | exact h
end Go.Proofs
namespace Go.Proofs
open Go.RowKit Go.Shelf Go.Proofs.Ct Go.Maps
/-- a list of g lists of the call's own, each in its own block -/
structure ImgS (w0 wr : World) (B g : Nat) (f : Nat → List Int) (vs : Nat → Value) : Prop where
  below : Below w0.heap.size w0 wr
  ge : w0.heap.size ≤ B
  blk : ∃ C, wr.heap[B]? = some (.cells C 23 (0, 0)) ∧ ∀ c, c < g → C[c]? = some (vs c)
  row : ∀ c, c < g → OwnI w0.heap.size wr (vs c) (f c)
  ap : ∀ c d, c < g → d < g → c ≠ d → ∀ r, (vs c).ownBlock = some r → (vs d).ownBlock ≠ some r
section
variable {w0 wr : World} {B g : Nat} {f : Nat → List Int} {vs : Nat → Value}
theorem ImgS.lt (h : ImgS w0 wr B g f vs) : B < wr.heap.size := by obtain ⟨C, hC, -⟩ := h.blk; exact (Array.getElem?_eq_some_iff.1 hC).1
theorem ImgS.own (h : ImgS w0 wr B g f vs) {c : Nat} (hc : c < g) : (vs c).ownBlock ≠ some B := fun e => by
  obtain ⟨-, C, hC⟩ := owns_block (h.row c hc) B e
  obtain ⟨C', hC', -⟩ := h.blk
  rw [hC'] at hC
  cases hC
theorem ImgS.below' {w' : World} (h : ImgS w0 wr B g f vs) (hb : Below wr.heap.size wr w') : ImgS w0 w' B g f vs := by
  obtain ⟨C, hC, h1⟩ := h.blk
  exact ⟨h.below.trans (hb.mono h.below.size), h.ge, ⟨C, (hb.block _ h.lt).trans hC, h1⟩, fun c hc => owns_below (h.row c hc) hb, h.ap⟩
theorem ImgS.cell (h : ImgS w0 wr B g f vs) {c : Nat} (hc : c < g) : wr.cell? ⟨B, c, none⟩ = some (vs c) := by
  obtain ⟨C, hC, h1⟩ := h.blk
  rw [cell_of_row _ _ _ _ _ _ hC]
  exact h1 c hc
theorem ImgS.frozen (h : ImgS w0 wr B g f vs) (c : Nat) : wr.frozen? ⟨B, c, none⟩ = false := by
  obtain ⟨C, hC, -⟩ := h.blk
  simp [World.frozen?, hC]
theorem ImgS.push (h : ImgS w0 wr B g f vs) {c : Nat} (hc : c < g) (z : Int) (hl : (f c).length ≤ 9000000) :
    ∃ A' c' w', (Builtin.append_ #[23, 23] 23 #[vs c, .slice (some ⟨wr.heap.size, 0, none⟩) 1 1]).run Try.prog (wr.alloc (.cells #[.int .i64 z] 3)) = .ok (.slice A' ((f c).length + 1) c') w' ∧
      w'.cell? ⟨B, c, none⟩ = some (vs c) ∧ w'.frozen? ⟨B, c, none⟩ = false ∧
      ImgS w0 (w'.setCell ⟨B, c, none⟩ (.slice A' ((f c).length + 1) c')) B g (fun d => if d = c then f c ++ [z] else f d) (fun d => if d = c then .slice A' ((f c).length + 1) c' else vs d) := by
  obtain ⟨A', c', w', hr, ho, hg, hw⟩ := push_int 23 23 Try.underlying23 wr w0.heap.size (vs c) (f c) (h.row c hc) z (by omega) h.below.size
  obtain ⟨C, hC, h1⟩ := h.blk
  have hCB : w'.heap[B]? = some (.cells C 23 (0, 0)) := (hg.block B h.lt (fun e => h.own hc e.symm)).trans hC
  have hrow : ∀ d, d < g → d ≠ c → OwnI w0.heap.size w' (vs d) (f d) := fun d hd hne => owns_keep (h.row d hd) fun r hr' => hg.block r (owns_lt (h.row d hd) hr') fun e => h.ap d c hd hc hne r hr' e.symm
  have hset : ∀ {u : Value} {x : List Int}, OwnI w0.heap.size w' u x → OwnI w0.heap.size (w'.setCell ⟨B, c, none⟩ (.slice A' ((f c).length + 1) c')) u x := fun {u x} hu => owns_keep hu fun r hr' => Below.heap_setCell w' ⟨B, c, none⟩ _ r fun e => by
    have e' : r = B := e
    obtain ⟨-, C', hC'⟩ := owns_block hu r hr'
    rw [e', hCB] at hC'
    cases hC'
  refine ⟨A', c', w', hr, by rw [cell_of_row _ _ _ _ _ _ hCB]; exact h1 c hc, by simp [World.frozen?, hCB], ?_, h.ge, ⟨C.setIfInBounds c (.slice A' ((f c).length + 1) c'), by simp [World.setCell, Array.getElem?_modify, hCB], fun d hd => ?_⟩, fun d hd => ?_, fun d1 d2 hd1 hd2 hne r hr1 => ?_⟩
  · exact (h.below.grown hg h.below.size (fun r hr' => (owns_block (h.row c hc) r hr').1)).setCell h.ge _
  · by_cases e : d = c
    · subst e
      have hsz : d < C.size := (Array.getElem?_eq_some_iff.1 (h1 d hd)).1
      simp [hsz]
    · skip
      rw [if_neg e, Array.getElem?_setIfInBounds_ne (fun e' => e e'.symm)]
      exact h1 d hd
  · by_cases e : d = c
    · rw [if_pos e, if_pos e]
      exact hset ho
    · rw [if_neg e, if_neg e]
      exact hset (hrow d hd e)
  · skip
    by_cases e1 : d1 = c
    · rw [if_pos e1] at hr1
      rw [if_neg (by omega)]
      rcases hw with hw | ⟨r', hw, hge⟩
      · rw [hw] at hr1
        exact h.ap c d2 hc hd2 (by omega) r hr1
      · rw [hw] at hr1
        cases hr1
        intro e
        have := owns_lt (h.row d2 hd2) e
        omega
    · rw [if_neg e1] at hr1
      by_cases e2 : d2 = c
      · rw [if_pos e2]
        rcases hw with hw | ⟨r', hw, hge⟩
        · rw [hw]
          exact h.ap d1 c hd1 hc (by omega) r hr1
        · rw [hw]
          intro e
          cases e
          have := owns_lt (h.row d1 hd1) hr1
          omega
      · rw [if_neg e2]
        exact h.ap d1 d2 hd1 hd2 hne r hr1
theorem ImgS.tab (h : ImgS w0 wr B g f vs) (hf : ∀ c, c < g → Fits (f c)) (hg : g ≤ 9000000) : Tab wr (.slice (some ⟨B, 0, none⟩) g g) ((List.range g).map f) := by
  refine ⟨(List.range g).map vs, ⟨_, g, g, rfl, by simp, Nat.le_refl _, by simp [maxLen]; omega, fun _ => ⟨B, 0, rfl, fun j v hj => ?_⟩⟩, by simp, fun i hi => ?_⟩
  · have hj' : j < g := by have := (List.getElem?_eq_some_iff.1 hj).1; simpa using this
    rw [Nat.zero_add, h.cell hj']
    simpa [hj'] using hj
  · have hi' : i < g := by simpa using hi
    refine ⟨vs i, by simp [hi'], ?_⟩
    have := OwnI.ints (h.row i hi') (hf i hi')
    simpa [List.getD_eq_getElem?_getD, hi'] using this
end
theorem ImgS.first {w0 w : World} (h : Below w0.heap.size w0 w) (g : Nat) : ImgS w0 (w.alloc (.cells (Array.replicate g (.slice none 0 0)) 23)) w.heap.size g (fun _ => []) (fun _ => .slice none 0 0) :=
  ⟨h.alloc h.size _, h.size, ⟨_, heap_alloc_new w _, fun c hc => by simp [hc]⟩, fun _ _ => World.ownsRow_nil _ _ _ _, fun _ _ _ _ _ _ hr => by cases hr⟩
end Go.Proofs
namespace Go.Proofs
open Go.RowKit Go.Shelf Go.Proofs.Ct Go.Maps
theorem bl3T {a b c : World} (h1 : Below a.heap.size a b) (h2 : Below b.heap.size b c) : Below a.heap.size a c := h1.trans (h2.mono h1.size)
def knB (n m : Nat) : List Value := (List.range n).map fun i => Value.bool (decide (i < m))
/-- the state of least -/
structure LST (R : List (List Int)) (n : Nat) (W0 : World) (kb bb mk mb : Nat) (vl vn : Value) (ll ln : List Int) (w : World) : Prop where
  below : Below W0.heap.size W0 w
  kbl : W0.heap.size ≤ kb
  bbl : W0.heap.size ≤ bb
  known : w.heap[kb]? = some (.cells (knB n mk).toArray 4 (0, 0))
  best : ∃ (vals : List Value) (F : Nat → Prop), w.heap[bb]? = some (.cells vals.toArray 24 (0, 0)) ∧ vals.length = n ∧ (∀ j, j < mb → ∃ u, vals[j]? = some u ∧ IntsF F w u (R.getD j [])) ∧ (∀ k, F k → W0.heap.size ≤ k ∧ k < w.heap.size ∧ k ≠ kb ∧ k ≠ bb ∧ vn.ownBlock ≠ some k)
  lay : OwnI W0.heap.size w vl ll
  nxt : OwnI W0.heap.size w vn ln
  sep : ∀ r, vl.ownBlock = some r → vn.ownBlock ≠ some r
section
variable {R : List (List Int)} {n : Nat} {W0 w w' : World} {kb bb mk mb : Nat} {vl vn : Value} {ll ln : List Int}
theorem own3 {base : Nat} {v : Value} {xs : List Int} (h : OwnI base w v xs) {q : Nat} {C : Array Value} {T : TypeId} (hq : w.heap[q]? = some (.cells C T (0, 0))) (hT : T ≠ 3) : v.ownBlock ≠ some q := fun e => by
  obtain ⟨-, C', hC'⟩ := owns_block h q e
  rw [hq] at hC'
  injection hC' with h1
  injection h1 with h2 h3
  exact hT h3
theorem LST.ne (h : LST R n W0 kb bb mk mb vl vn ll ln w) : kb ≠ bb := fun e => by
  obtain ⟨vals, F, h1, -⟩ := h.best
  rw [← e, h.known] at h1
  injection h1 with h2
  injection h2 with h3 h4
  cases h4
theorem LST.lk (h : LST R n W0 kb bb mk mb vl vn ll ln w) : vl.ownBlock ≠ some kb ∧ vl.ownBlock ≠ some bb ∧ vn.ownBlock ≠ some kb ∧ vn.ownBlock ≠ some bb := by
  obtain ⟨vals, F, h1, -⟩ := h.best
  exact ⟨own3 h.lay h.known (by decide), own3 h.lay h1 (by decide), own3 h.nxt h.known (by decide), own3 h.nxt h1 (by decide)⟩
theorem LST.move (h : LST R n W0 kb bb mk mb vl vn ll ln w) (hb : Below w.heap.size w w') : LST R n W0 kb bb mk mb vl vn ll ln w' := by
  obtain ⟨vals, F, h1, h2, h3, h4⟩ := h.best
  exact ⟨bl3T h.below hb, h.kbl, h.bbl, (hb.block _ (Array.getElem?_eq_some_iff.1 h.known).1).trans h.known,
    ⟨vals, F, (hb.block _ (Array.getElem?_eq_some_iff.1 h1).1).trans h1, h2, fun j hj => let ⟨u, hu, hi⟩ := h3 j hj; ⟨u, hu, hi.keep (Ag.below hb fun k hk => (h4 k hk).2.1)⟩, fun k hk => ⟨(h4 k hk).1, Nat.lt_of_lt_of_le (h4 k hk).2.1 hb.size, (h4 k hk).2.2⟩⟩,
    owns_below h.lay hb, owns_below h.nxt hb, h.sep⟩
theorem LST.put (h : LST R n W0 kb bb mk mb vl vn ll ln w) {A : Option Addr} {c : Nat} {B : Nat} (hB : ∀ r, vn.ownBlock = some r → r < B) (hB2 : kb < B ∧ bb < B ∧ W0.heap.size ≤ B) (ho : OwnI B w (.slice A (R.getD mb []).length c) (R.getD mb [])) (hf : Fits (R.getD mb [])) (hn : mb < n) :
    LST R n W0 kb bb mk (mb + 1) vl vn ll ln (w.setCell ⟨bb, mb, none⟩ (.slice A (R.getD mb []).length c)) := by
  obtain ⟨vals, F, h1, h2, h3, h4⟩ := h.best
  obtain ⟨k1, k2, k3, k4⟩ := h.lk
  have hoo : ∀ k, k ≠ bb → (w.setCell ⟨bb, mb, none⟩ (.slice A (R.getD mb []).length c)).heap[k]? = w.heap[k]? := fun k hk => heap_setCell_other w _ k _ hk
  have hsz : (w.setCell ⟨bb, mb, none⟩ (.slice A (R.getD mb []).length c)).heap.size = w.heap.size := by simp [World.setCell]
  have hI := IntsF.of_own ho hf
  have hG : ∀ k, (Value.slice A (R.getD mb []).length c).ownBlock = some k → B ≤ k ∧ k < w.heap.size := fun k hk => ⟨(owns_block ho k hk).1, owns_lt ho hk⟩
  refine ⟨⟨h.below.os, h.below.tape, h.below.output, by rw [hsz]; exact h.below.size, fun k hk => (hoo k (by have := h.bbl; omega)).trans (h.below.block k hk)⟩, h.kbl, h.bbl, (hoo kb h.ne).trans h.known,
    ⟨vals.set mb (.slice A (R.getD mb []).length c), fun k => F k ∨ (Value.slice A (R.getD mb []).length c).ownBlock = some k, ?_, by simp [h2], fun j hj => ?_, fun k hk => ?_⟩,
    owns_keep h.lay fun r hr => hoo r fun e => k2 (by rw [hr, e]), owns_keep h.nxt fun r hr => hoo r fun e => k4 (by rw [hr, e]), h.sep⟩
  · rw [box_set h1]
    simp
  · by_cases e : j = mb
    · subst e
      exact ⟨_, by simp [h2, hn], (hI.keep fun k hk => hoo k fun e => by have := (hG k hk).1; omega).mono fun k hk => .inr hk⟩
    · obtain ⟨u, hu, hi⟩ := h3 j (by omega)
      refine ⟨u, by rw [List.getElem?_set, if_neg (fun h => e h.symm)]; exact hu, (hi.keep fun k hk => hoo k (h4 k hk).2.2.2.1).mono fun k hk => .inl hk⟩
  · rw [hsz]
    rcases hk with hk | hk
    · exact h4 k hk
    · obtain ⟨g1, g2⟩ := hG k hk
      exact ⟨by omega, g2, by omega, by omega, fun e => by have := hB k e; omega⟩
theorem LST.app (h : LST R n W0 kb bb mk mb vl vn ll ln w) {A : Option Addr} {c : Nat} {x : Int} (ho : OwnI W0.heap.size w' (.slice A (ln.length + 1) c) (ln ++ [x])) (hg : w.grownBy w' vn.ownBlock) (hw : (Value.slice A (ln.length + 1) c).ownBlock = vn.ownBlock ∨ ∃ r, (Value.slice A (ln.length + 1) c).ownBlock = some r ∧ w.heap.size ≤ r) :
    LST R n W0 kb bb mk mb vl (.slice A (ln.length + 1) c) ll (ln ++ [x]) w' := by
  obtain ⟨vals, F, h1, h2, h3, h4⟩ := h.best
  obtain ⟨k1, k2, k3, k4⟩ := h.lk
  have hk : ∀ k, k < w.heap.size → vn.ownBlock ≠ some k → w'.heap[k]? = w.heap[k]? := fun k h1 h2 => hg.block k h1 fun e => h2 e.symm
  have hkl := (Array.getElem?_eq_some_iff.1 h.known).1
  have hbl := (Array.getElem?_eq_some_iff.1 h1).1
  have hne : ∀ k, k < w.heap.size → vn.ownBlock ≠ some k → (Value.slice A (ln.length + 1) c).ownBlock ≠ some k := fun k h1 h2 e => by
    rcases hw with hw | ⟨r, hw, hr⟩
    · exact h2 (by rw [← hw]; exact e)
    · rw [hw] at e
      have := Option.some.inj e
      omega
  refine ⟨grown_below rfl h.below hg fun r hr => (owns_block h.nxt r hr).1, h.kbl, h.bbl, (hk kb hkl k3).trans h.known,
    ⟨vals, F, (hk bb hbl k4).trans h1, h2, fun j hj => let ⟨u, hu, hi⟩ := h3 j hj; ⟨u, hu, hi.keep fun k hF => hk k (h4 k hF).2.1 (h4 k hF).2.2.2.2⟩, fun k hF => ⟨(h4 k hF).1, Nat.lt_of_lt_of_le (h4 k hF).2.1 hg.size, (h4 k hF).2.2.1, (h4 k hF).2.2.2.1, hne k (h4 k hF).2.1 (h4 k hF).2.2.2.2⟩⟩,
    owns_keep h.lay fun r hr => hk r (owns_lt h.lay hr) (h.sep r hr), ho, fun r hr => hne r (owns_lt h.lay hr) (h.sep r hr)⟩
end
theorem own_cells {base : Nat} {w : World} {v : Value} {xs : List Int} (h : OwnI base w v xs) {k : Nat} (hk : k < xs.length) : ∃ g c, v = .slice (some ⟨g, 0, none⟩) xs.length c ∧ ∀ k, k < xs.length → w.cell? ⟨g, k, none⟩ = some (.int .i64 (xs.getD k 0)) := by
  obtain ⟨h0, h1⟩ := h
  rcases h1 with ⟨rfl, h2⟩ | ⟨g, cap, cur, rfl, -, hg, -, -, -, ht⟩
  · omega
  · refine ⟨g, cap, rfl, fun k hk => ?_⟩
    rw [cell_of_row _ _ _ _ _ _ hg]
    have h3 : (ints xs)[k]? = some (.int .i64 (xs.getD k 0)) := by simp [ints, List.getElem?_map, List.getD_eq_getElem?_getD, List.getElem?_eq_getElem hk]
    rw [← ht, List.getElem?_take] at h3
    split at h3
    · simpa using h3
    · cases h3
theorem frozen_row {w : World} {b : Nat} {C : Array Value} {T : TypeId} (h : w.heap[b]? = some (.cells C T (0, 0))) (k : Nat) : w.frozen? ⟨b, k, none⟩ = false := by
  simp [World.frozen?, h]
end Go.Proofs
namespace Go.Proofs.Ct
section
variable {g : Nat} {rels sub : List W} {t u : Tb}
theorem LOk.app {a b : W} (ha : LOk g a) (hb : LOk g b) : LOk g (a ++ b) := fun x hx => (List.mem_append.1 hx).elim (ha x) (hb x)
end
end Go.Proofs.Ct
namespace Go.Proofs
open Go.RowKit Go.Shelf Go.Proofs.Ct Go.Maps
theorem below_drew' (w : World) : Below w.heap.size w w.drew := (Below.refl _ _).drew
end Go.Proofs
