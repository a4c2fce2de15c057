/- A region that draws its order, whatever it holds: each operation is shown once; The reference's rotation of a word; pres.least, pres.Least; Plain: eliminations and shortening steps lead to presentations in their normal form; word.Check where it accepts, pres.Least. -/
import Derived.Test.YtmmbmhjdnlmedaaGreatLoCS7
import Derived.Test.YtmmbmhjdnlmedaaGreatLoCS5
import Derived.Test.YtmmbmhjdnlmedaaGreatLoCS6
import Derived.Test.YtmmbmhjdnlmedaaGreatLoCS4
namespace Go.Proofs
open Go.RowKit Go.Shelf Go.Proofs.Ct Go.Maps
/-- The frame: slots whose operations are not listed are as they were. -/
structure Part (a0 : Act) (dm : Nat → Option Tmp) (N : Nat) (ls : Nat → Bool) (a : Act) : Prop where
  size : a.tmps.size = a0.tmps.size
  defers : a.defers = a0.defers
  out : ∀ t, (∀ i, i < N → ls i = true → dm i ≠ some t) → a.tmps.getD t undef = a0.tmps.getD t undef
theorem Part.put {a0 a : Act} {dm : Nat → Option Tmp} {N i : Nat} {ls : Nat → Bool} (h : Part a0 dm N ls a) (hi : i < N) (v : Value) : Part a0 dm N (fun j => if i = j then true else ls j) (a.put (dm i) v) := by
  refine ⟨?_, ?_, fun t ht => ?_⟩
  · cases hd : dm i with
    | none => exact h.size
    | some t => simpa [Act.put] using h.size
  · cases hd : dm i with
    | none => exact h.defers
    | some t => exact h.defers
  · have h1 : ∀ j, j < N → ls j = true → dm j ≠ some t := fun j hj hl => ht j hj (by simp [hl])
    have h2 := ht i hi (by rw [if_pos rfl])
    rw [← h.out t h1]
    cases hd : dm i with
    | none => rfl
    | some t' => exact put_getD_ne _ _ _ _ (fun e => h2 (by rw [hd, e]))
def slotv (a : Act) : Option Tmp → Value
  | some t => a.tmps.getD t undef
  | none => undef
def lexB (ops : Array Oper) : Bool := (List.range ops.size).all fun i => match ops[i]? with | some o => o.after.toList.all fun e => decide (e.on < i) || !Region.binds .any e | none => true
theorem lex_of {ops : Array Oper} (h : lexB ops = true) : ∀ (i : Nat) (o : Oper), ops[i]? = some o → ∀ e ∈ o.after.toList, Region.binds .any e = true → e.on < i := fun i o ho e he hb => by
  unfold lexB at h
  rw [List.all_eq_true] at h
  have hi : i < ops.size := (Array.getElem?_eq_some_iff.1 ho).1
  have := h i (by simpa using hi)
  rw [ho] at this
  rw [List.all_eq_true] at this
  have h2 := this e he
  rw [hb] at h2
  simpa using h2
section
variable {F : Fence} {n : Nat} {P : Program} {ops : Array Oper} {Q : Exit → Act → World → Prop}
theorem wpIn_region_all {id : Nat} {a0 : Act} {w : World} (hm : P.follows .mixedOrders = true) (N : Nat) (hN : ops.size = N) (dm : Nat → Option Tmp) (hlex : ∀ (i : Nat) (o : Oper), ops[i]? = some o → ∀ e ∈ o.after.toList, Region.binds .any e = true → e.on < i)
    (S : (Nat → Bool) → World → Prop) (Φ : Nat → Value → World → Prop) (G : Nat → World → World → Prop)
    (hdm : ∀ i j t, i < N → j < N → dm i = some t → dm j = some t → i = j)
    (hΦ : ∀ i j v w w', i < N → j < N → i ≠ j → G i w w' → Φ j v w → Φ j v w')
    (hsz : ∀ i t, i < N → dm i = some t → t < a0.tmps.size) (h0 : S (fun _ => false) w.drew)
    (hop : ∀ (ls : Nat → Bool) (i : Nat) (o : Oper) (a : Act) (w : World), i < N → ops[i]? = some o → S ls w → ls i = false → (∀ (j : Nat) (oj : Oper), ops[j]? = some oj → ls j = true → ∀ e ∈ oj.after.toList, Region.binds .any e = true → ls e.on = true) → Part a0 dm N ls a →
      (∀ e ∈ o.after.toList, Region.binds .any e = true → ls e.on = true ∧ Φ e.on (slotv a (dm e.on)) w) →
      wpOpIn F n P ops Q i (fun a' w' => ∃ v, a' = a.put (dm i) v ∧ S (fun j => if i = j then true else ls j) w' ∧ G i w w' ∧ (dm i = none → v = undef) ∧ Φ i v w') a w)
    (hend : ∀ (ls : Nat → Bool) (a : Act) (w : World), (∀ i, i < N → ls i = true) → S ls w → Part a0 dm N ls a → (∀ i, i < N → Φ i (slotv a (dm i)) w) → Q .normal a w) :
    (Code.region id ops true).wpIn F n P Q a0 w := by
  subst hN
  refine wpIn_region_any hm ?_
  refine wpAnyIn_inv (fun listed a w => Closed ops listed ∧ S (fun j => listed.getD j false) w ∧ Part a0 dm ops.size (fun j => listed.getD j false) a ∧ ∀ i, i < ops.size → listed.getD i false = true → Φ i (slotv a (dm i)) w) ?_ ?_ ops.size _ a0 _ (by simp) ?_ ⟨fun i o ho h => ?_, ?_, ⟨rfl, rfl, fun _ _ => rfl⟩, fun i hi h => ?_⟩
  · rintro listed a w i hls ⟨hcl, hS, hP, hsl⟩ hi
    obtain ⟨h1, h2, o, ho, hpre⟩ := ready_mem hi
    rw [getD_true_false (by omega)] at h2
    have hsetD : ∀ j, (listed.setIfInBounds i true).getD j false = if i = j then true else listed.getD j false := fun j => getD_set_listed (by omega)
    have hcl' : Closed ops (listed.setIfInBounds i true) := fun j oj hoj hl e he hb => by
      rw [hsetD] at hl ⊢
      by_cases eij : i = j
      · subst eij
        rw [ho] at hoj; cases hoj
        have := hpre e he hb
        split
        · rfl
        · exact this
      · rw [if_neg eij] at hl
        have := hcl j oj hoj hl e he hb
        split
        · rfl
        · exact this
    have hwp := hop _ i o a w h1 ho hS h2 (fun j oj hoj hl => hcl j oj hoj hl) hP (fun e he hb => ⟨hpre e he hb, hsl e.on (by have := hlex i o ho e he hb; omega) (hpre e he hb)⟩)
    refine wpOpIn_mono (fun a' w' h => ?_) hwp
    obtain ⟨v, rfl, hS', hG, hvn, hv⟩ := h
    rw [show (fun j => if i = j then true else listed.getD j false) = (fun j => (listed.setIfInBounds i true).getD j false) from (funext hsetD).symm] at hS'
    have hP' := hP.put h1 v
    rw [show (fun j => if i = j then true else listed.getD j false) = (fun j => (listed.setIfInBounds i true).getD j false) from (funext hsetD).symm] at hP'
    refine ⟨hcl', hS', hP', fun j hj hl => ?_⟩
    by_cases e : i = j
    · subst e
      have : slotv (a.put (dm i) v) (dm i) = v := by
        cases hdi : dm i with
        | none => rw [hvn hdi]; rfl
        | some t => exact put_getD_same _ _ _ (by rw [hP.size]; exact hsz i t h1 hdi)
      rw [this]
      exact hv
    · rw [hsetD, if_neg e] at hl
      have := hΦ i j _ _ _ h1 hj e hG (hsl j hj hl)
      have hv' : slotv (a.put (dm i) v) (dm j) = slotv a (dm j) := by
        cases hdj : dm j with
        | none => rfl
        | some t =>
          cases hdi : dm i with
          | none => rfl
          | some t' => exact put_getD_ne _ _ _ _ (fun e' => e (hdm i j t h1 hj (by rw [hdi, e']) hdj))
      rw [hv']
      exact this
  · rintro listed a w hls ⟨hcl, hS, hP, hsl⟩ hr
    have hready : ∀ i, i < ops.size → listed.getD i false = true := by
      intro i
      induction i using Nat.strongRecOn with
      | _ i ih =>
        intro hi
        rcases hl : listed.getD i false with _ | _
        · have hmem : i ∈ Region.ready .any ops listed := by
            simp only [Region.ready, List.mem_filter, List.mem_range, Bool.and_eq_true, Bool.not_eq_true']
            refine ⟨hi, by rw [getD_true_false (by omega)]; exact hl, ?_⟩
            rw [Array.getElem?_eq_getElem hi]
            simp only [Option.map_some, Option.getD_some]
            rw [Array.all_eq_true_iff_forall_mem]
            intro e he
            by_cases hb : Region.binds .any e = true
            · have hlt := hlex i _ (Array.getElem?_eq_getElem hi) e (by simpa using he) hb
              simp [ih e.on hlt (by omega)]
            · simp [hb]
          rw [hr] at hmem; cases hmem
        · rfl
    exact hend _ a w hready hS hP (fun i hi => hsl i hi (hready i hi))
  · simp
  · have : (Array.replicate ops.size false).getD i false = false := by
      simp only [Array.getD_eq_getD_getElem?, Array.getElem?_replicate]; split <;> rfl
    rw [this] at h; cases h
  · rw [show (fun j => (Array.replicate ops.size false).getD j false) = (fun _ => false) from funext fun j => by simp only [Array.getD_eq_getD_getElem?, Array.getElem?_replicate]; split <;> rfl]
    exact h0
  · have : (Array.replicate ops.size false).getD i false = false := by
      simp only [Array.getD_eq_getD_getElem?, Array.getElem?_replicate]; split <;> rfl
    rw [this] at h; cases h
end
theorem not_yet {ops : Array Oper} {ls : Nat → Bool} (hcl : ∀ (j : Nat) (oj : Oper), ops[j]? = some oj → ls j = true → ∀ e ∈ oj.after.toList, Region.binds .any e = true → ls e.on = true) (j : Nat) {oj : Oper} (hoj : ops[j]? = some oj) (e : Edge) (he : e ∈ oj.after.toList) (hb : Region.binds .any e = true) (h : ls e.on = false) : ls j = false := by
  cases hj : ls j with
  | false => rfl
  | true => rw [hcl j oj hoj hj e he hb] at h; cases h
theorem dm_out {dm : Nat → Option Tmp} {N t : Nat} {ls : Nat → Bool} (h : (List.range N).all (fun i => !(dm i == some t)) = true) : ∀ i, i < N → ls i = true → dm i ≠ some t := fun i hi _ e => by
  rw [List.all_eq_true] at h
  have := h i (by simpa using hi)
  rw [e] at this
  simp at this
theorem dm_out1 {dm : Nat → Option Tmp} {N t k : Nat} {ls : Nat → Bool} (hk : ls k = false) (h : (List.range N).all (fun i => !(dm i == some t) || i == k) = true) : ∀ i, i < N → ls i = true → dm i ≠ some t := fun i hi hl e => by
  rw [List.all_eq_true] at h
  have := h i (by simpa using hi)
  rw [e] at this
  have h2 : i = k := by simpa using this
  rw [h2, hk] at hl
  cases hl
theorem dm_inj {dm : Nat → Option Tmp} {N : Nat} (h : (List.range N).all (fun i => (List.range N).all fun j => (i == j) || (dm i == none) || !(dm i == dm j)) = true) : ∀ i j t, i < N → j < N → dm i = some t → dm j = some t → i = j := fun i j t hi hj e1 e2 => by
  rw [List.all_eq_true] at h
  have h1 := h i (by simpa using hi)
  rw [List.all_eq_true] at h1
  have h2 := h1 j (by simpa using hj)
  rw [e1, e2] at h2
  simpa using h2
theorem dm_lt {dm : Nat → Option Tmp} {N n : Nat} (h : (List.range N).all (fun i => match dm i with | some t => decide (t < n) | none => true) = true) : ∀ i t, i < N → dm i = some t → t < n := fun i t hi e => by
  rw [List.all_eq_true] at h
  have := h i (by simpa using hi)
  rw [e] at this
  simpa using this
/-- The frame behind the region, written out. -/
theorem Part.frame {a0 a : Act} {dm : Nat → Option Tmp} {N : Nat} {ls : Nat → Bool} (h : Part a0 dm N ls a) (n : Nat) (hn : a0.tmps.size = n) :
    ∃ vs : Nat → Value, (∀ t, vs t = a.tmps.getD t undef) ∧ a = { tmps := ((List.range n).map fun t => if (List.range N).any (fun i => dm i == some t) then vs t else a0.tmps.toList.getD t undef).toArray, defers := a0.defers } := by
  refine ⟨fun t => a.tmps.getD t undef, fun _ => rfl, ?_⟩
  obtain ⟨t, d⟩ := a
  have hd := h.defers
  have hs := h.size
  have ho := h.out
  simp only at hd hs ho
  subst hd
  congr 1
  apply Array.ext'
  apply List.ext_getElem?
  intro i
  rcases Nat.lt_or_ge i n with hi | hi
  · have hit : i < t.size := by omega
    have hg : t.toList[i]? = some (t.getD i undef) := by simp [Array.getD, hit]
    rw [hg]
    simp only [List.getElem?_map, List.getElem?_range hi, Option.map_some]
    congr 1
    by_cases hx : (List.range N).any (fun q => dm q == some i) = true
    · rw [if_pos hx]
    · rw [if_neg hx]
      rw [ho i (fun j hj _ e => hx ?_)]
      · simp [Array.getD_eq_getD_getElem?, List.getD_eq_getElem?_getD]
      · rw [List.any_eq_true]
        exact ⟨j, by simpa using hj, by simpa using e⟩
  · rw [List.getElem?_eq_none (by simpa using (by omega : t.size ≤ i)), List.getElem?_eq_none (by simpa using hi)]
end Go.Proofs
namespace Go.Proofs
open Go.RowKit Go.Shelf Go.Lib Go.Sort Go.Proofs.Ct Go.Proofs.Tz
theorem bs36e (w : World) : (Instr.buildSlice 36 0 #[]).run Tryz.prog w = .ok (.slice (some ⟨w.heap.size, 0, none⟩) 0 0) (w.alloc (.cells #[] 3)) := by kernel_rfl
theorem r_bs36e {o : Oper} {a : Act} {w : World} (ho : o.op = .buildSlice 36 0 #[]) : (execOp a.eval o).run Tryz.prog w = .ok (.value (.slice (some ⟨w.heap.size, 0, none⟩) 0 0)) (w.alloc (.cells #[] 3)) := by
  have hb := bs36e w
  unfold execOp
  simp only [ho, List.map_toArray, List.map_nil, Sem.run_bind, hb, Result.andThen_ok]
  rfl
/-- two halves of a word, the other way round, in memory of their own -/
theorem rot_mem {w : World} {A : Option Addr} {c k : Nat} {v : List Int} (h : IntsAt w (.slice A v.length c) v) (hk : k ≤ v.length) (hl : v.length ≤ 4000000) :
    ∃ Al cl Ah ch A1 c1 w1 A2 c2 w2, sliced A k v.length c 1 = .slice Al (v.length - k) cl ∧ sliced A 0 k c 1 = .slice Ah k ch ∧ k ≤ c ∧
      (Builtin.append_ #[36, 36] 36 #[.slice (some ⟨w.heap.size, 0, none⟩) 0 0, .slice Al (v.length - k) cl]).run Tryz.prog (w.alloc (.cells #[] 3)) = .ok (.slice A1 (v.length - k) c1) w1 ∧
      (Builtin.append_ #[36, 36] 36 #[.slice A1 (v.length - k) c1, .slice Ah k ch]).run Tryz.prog w1 = .ok (.slice A2 v.length c2) w2 ∧ OwnI w.heap.size w2 (.slice A2 v.length c2) (rot v k) ∧ Below w.heap.size w w2 := by
  obtain ⟨Al, e1, i1⟩ := ints_cut h hk (Nat.le_refl _)
  obtain ⟨Ah, e2, i2⟩ := ints_cut h (Nat.zero_le k) hk
  rw [List.take_length] at i1
  rw [Nat.sub_zero, Nat.sub_zero] at e2 i2
  rw [List.drop_zero] at i2
  have hc : k ≤ c := by
    obtain ⟨A', c', e, h5, -, -⟩ := h.open_
    injection e with _ _ e3
    omega
  have l1 : (v.drop k).length = v.length - k := List.length_drop
  have l2 : (v.take k).length = k := by rw [List.length_take]; omega
  obtain ⟨A1, c1, w1, h1, o1, b1⟩ := copy_empty 36 36 Tryz.underlying36 w _ (v.drop k) i1 (by omega)
  rw [l1] at h1 o1
  obtain ⟨A2, c2, w2, h2, o2, g2, -⟩ := run_append_ints 36 36 Tryz.underlying36 w1 w.heap.size _ _ _ _ o1 (i2.below b1) (by omega) (by omega) b1.size
  have l3 : (v.drop k ++ v.take k).length = v.length := by rw [List.length_append]; omega
  rw [l3] at h2 o2
  exact ⟨Al, _, Ah, _, A1, c1, w1, A2, c2, w2, e1, e2, hc, h1, h2, o2, b1.grown g2 b1.size fun r hr => (owns_block o1 r hr).1⟩
theorem rot_mem' {w : World} {A : Option Addr} {n c k : Nat} {v : List Int} (hn : n = v.length) (h : IntsAt w (.slice A n c) v) (hk : k ≤ n) (hl : n ≤ 4000000) :
    ∃ Al cl Ah ch A1 c1 w1 A2 c2 w2, sliced A k n c 1 = .slice Al (n - k) cl ∧ sliced A 0 k c 1 = .slice Ah k ch ∧ k ≤ c ∧
      (Builtin.append_ #[36, 36] 36 #[.slice (some ⟨w.heap.size, 0, none⟩) 0 0, .slice Al (n - k) cl]).run Tryz.prog (w.alloc (.cells #[] 3)) = .ok (.slice A1 (n - k) c1) w1 ∧
      (Builtin.append_ #[36, 36] 36 #[.slice A1 (n - k) c1, .slice Ah k ch]).run Tryz.prog w1 = .ok (.slice A2 n c2) w2 ∧ OwnI w.heap.size w2 (.slice A2 n c2) (rot v k) ∧ Below w.heap.size w w2 := by
  subst hn
  exact rot_mem h hk hl
end Go.Proofs
namespace Go.Proofs
open Go.RowKit Go.Shelf Go.Lib Go.Sort Go.Proofs.Ct Go.Proofs.Tz Go.Maps
attribute [local simp, local go_sem] wideF wideD
attribute [local go_sem] Oper.semAt_some
theorem rotations62_any (w : World) (v : Value) (x : List Int) (h : IntsAt w v x) : Calls Tryz.prog 92 #[v] w fun e w' => e = .returned (.func (.func 120) #[] #[.pointer (some ⟨w.heap.size, 0, none⟩)]) ∧ w' = w.alloc (.cells #[v] 36) := by
  obtain ⟨A, c, rfl, -, -, -⟩ := h.open_
  clear h
  go_enter Tryz.func92, Tryz.ntmps92
  go_wp2_with fail
  go_ret
  exact ⟨rfl, rfl⟩
theorem cell_putObj {A : World} {p : Addr} {v : Value} {l : Nat} {o o' : Obj} (h : A.cell? p = some v) (ho : A.heap[l]? = some o) (hn : o.isCells = false) : (A.putObj l o').cell? p = some v := by
  have hne : p.block ≠ l := fun e => by
    unfold World.cell? at h
    rw [e, ho] at h
    cases o <;> simp_all [Obj.isCells]
  rw [World.cell?_of_block (World.putObj_heap_other hne)]
  exact h
theorem ints_putObj {A : World} {u : Value} {x : List Int} {l : Nat} {o o' : Obj} (h : IntsAt A u x) (ho : A.heap[l]? = some o) (hn : o.isCells = false) : IntsAt (A.putObj l o') u x := by
  obtain ⟨⟨A0, n, cap, h1, h2, h3, h4, h5⟩, hf⟩ := h
  refine ⟨⟨A0, n, cap, h1, h2, h3, h4, fun hp => ?_⟩, hf⟩
  obtain ⟨b, off, e, hr⟩ := h5 hp
  exact ⟨b, off, e, fun j v hv => cell_putObj (hr j v hv) ho hn⟩
theorem fresh_putObj {B : Nat} {A : World} {u : Value} {x : List Int} {l : Nat} {o o' : Obj} (h : FreshW B u x A) (ho : A.heap[l]? = some o) (hn : o.isCells = false) : FreshW B u x (A.putObj l o') := by
  obtain ⟨A0, c, rfl, h1, h2⟩ := h
  refine ⟨A0, c, rfl, h1, ?_⟩
  rcases h2 with h2 | ⟨g, cap, cur, e, hB, hg, h3⟩
  · exact .inl h2
  · refine .inr ⟨g, cap, cur, e, hB, ?_, h3⟩
    have hne : g ≠ l := fun e => by subst e; rw [ho] at hg; cases hg; cases hn
    rw [World.putObj_heap_other hne]
    exact hg
theorem FreshW.below {B : Nat} {A A' : World} {u : Value} {x : List Int} (h : FreshW B u x A) (hb : Below A.heap.size A A') : FreshW B u x A' := by
  obtain ⟨A0, c, rfl, h1⟩ := h
  exact ⟨A0, c, rfl, owns_below h1 hb⟩
/-- a word of memory of the call's own is not in a box below -/
theorem FreshW.set {B : Nat} {A : World} {u z : Value} {x : List Int} {b : Nat} (h : FreshW B u x A) (hb : b < B) : FreshW B u x (A.setCell ⟨b, 0, none⟩ z) := by
  obtain ⟨A0, c, rfl, h1, h2⟩ := h
  refine ⟨A0, c, rfl, h1, ?_⟩
  rcases h2 with h2 | ⟨g, cap, cur, e, hB, hg, h3⟩
  · exact .inl h2
  · exact .inr ⟨g, cap, cur, e, hB, (Below.heap_setCell A ⟨b, 0, none⟩ z g (by show g ≠ b; omega)).trans hg, h3⟩
theorem FreshW.ints {B : Nat} {A : World} {u : Value} {x : List Int} (h : FreshW B u x A) (hf : Fits x) : IntsAt A u x := by
  obtain ⟨A0, c, rfl, h1⟩ := h
  exact OwnI.ints h1 hf
theorem mild_rot {v : List Int} (h : ∀ z ∈ v, Mild z) (k : Nat) : ∀ z ∈ rot v k, Mild z := fun z hz => h z (mem_rot hz)
theorem mild_best {v b : List Int} (hv : ∀ z ∈ v, Mild z) (hb : ∀ z ∈ b, Mild z) (k : Nat) : ∀ z ∈ bestTo v b k, Mild z := by
  rcases bestTo_is v b k with e | ⟨j, -, e⟩ <;> rw [e]
  · exact hb
  · exact mild_rot hv j
/-- what the range over the rotations keeps: the boxes, the best word so far -/
structure LstSt (w : World) (b : Nat) (y : List Int) (W : World) : Prop where
  below : Below w.heap.size w W
  size : w.heap.size + 2 ≤ W.heap.size
  cmp : W.heap[w.heap.size + 1]? = some (.cells #[.func (.func 52) #[] #[]] 83 (0, 0))
  first : ∃ u, W.heap[w.heap.size]? = some (.cells #[u] 36 (0, 0)) ∧ IntsAt W u y
theorem LstSt.step {w : World} {b : Nat} {y : List Int} {A B : World} (h : LstSt w b y A) (hb : Below A.heap.size A B) : LstSt w b y B := by
  obtain ⟨u, h1, h2⟩ := h.first
  have hs := h.size
  exact ⟨h.below.trans (hb.mono h.below.size), Nat.le_trans h.size hb.size, (hb.block _ (by omega)).trans h.cmp, u, (hb.block _ (by omega)).trans h1, h2.below hb⟩
theorem LstSt.put {w : World} {b : Nat} {y : List Int} {A : World} {l : Nat} {o o' : Obj} (h : LstSt w b y A) (hl : w.heap.size + 2 ≤ l) (ho : A.heap[l]? = some o) (hn : o.isCells = false) : LstSt w b y (A.putObj l o') := by
  obtain ⟨u, h1, h2⟩ := h.first
  exact ⟨h.below.trans ⟨rfl, rfl, rfl, by simp, fun k hk => World.putObj_heap_other (by omega)⟩, by simp; exact h.size, (World.putObj_heap_other (by omega)).trans h.cmp, u, (World.putObj_heap_other (by omega)).trans h1, ints_putObj h2 ho hn⟩
theorem LstSt.set {w : World} {b : Nat} {y z : List Int} {A : World} {u : Value} (h : LstSt w b y A) (hu : FreshW (w.heap.size + 2) u z A) (hf : Fits z) : LstSt w b z (A.setCell ⟨w.heap.size, 0, none⟩ u) := by
  obtain ⟨u0, h1, -⟩ := h.first
  have hne : ∀ k, k ≠ w.heap.size → (A.setCell ⟨w.heap.size, 0, none⟩ u).heap[k]? = A.heap[k]? := fun k hk => Below.heap_setCell A ⟨w.heap.size, 0, none⟩ _ k hk
  refine ⟨h.below.trans ⟨rfl, rfl, rfl, by simp [World.setCell], fun k hk => hne k (by omega)⟩, by simp [World.setCell]; exact h.size, (hne _ (by omega)).trans h.cmp, u, ?_, (hu.set (by omega)).ints hf⟩
  simp [World.setCell, Array.getElem?_modify, h1]
/-- the activation in a round -/
def bare61 (vf vg : Value) (b : Nat) (x7 x9 : Value) : Act :=
  { tmps := #[vf, vg, .func (.func 52) #[] #[], .pointer (some ⟨b, 0, none⟩), undef, .pointer (some ⟨b + 1, 0, none⟩), .slice none 0 0, x7, vg, x9, undef, undef, undef, undef, undef, undef, undef], defers := [] }
set_option maxRecDepth 100000 in
set_option maxHeartbeats 4000000 in
theorem least61_in (n : Nat) (w : World) (vf : Value) (A : Option Addr) (c bw : Nat) (v b : List Int) (hbox : w.heap[bw]? = some (.cells #[.slice A v.length c] 36 (0, 0))) (hv : IntsAt w (.slice A v.length c) v) (hf : IntsAt w vf b) (hl : v.length ≤ 1000000)
    (hmv : ∀ z ∈ v, Mild z) (hmb : ∀ z ∈ b, Mild z) :
    CallsIn Fence.wide n Tryz.prog 91 #[vf, .func (.func 120) #[] #[.pointer (some ⟨bw, 0, none⟩)], .func (.func 52) #[] #[]] w fun e w' => ∃ u, e = .returned u ∧ IntsAt w' u (bestTo v b v.length) ∧ Below w.heap.size w w' := by
  obtain ⟨A0, c0, rfl, -, -, -⟩ := hf.open_
  have HBX := Lib.hid hbox
  have HV := Lib.hid hv
  have HF := Lib.hid hf
  have HL := Lib.hid hl
  have HMV := Lib.hid hmv
  have HMB := Lib.hid hmb
  clear hbox hv hf hl hmv hmb
  refine callsIn_of_wp_marks Tryz.func91 rfl trivial ?_ rfl
  simp only [Tryz.ntmps91, List.size_toArray, List.length_cons, List.length_nil, Nat.reduceAdd, Nat.reduceSub, Array.replicate_succ, Array.replicate_zero, List.push_toArray, List.append_toArray, List.nil_append, List.cons_append]
  gi_wp2_with fail
  obtain ⟨W1, hW1⟩ : ∃ W1, (w.alloc (.cells #[.slice A0 b.length c0] 36)).alloc (.cells #[.func (.func 52) #[] #[]] 83) = W1 := ⟨_, rfl⟩
  have hs1 : W1.heap.size = w.heap.size + 2 := by rw [← hW1]; simp
  have hb1 : Below w.heap.size w W1 := by rw [← hW1]; exact ((Below.refl _ w).alloc (Nat.le_refl _) _).alloc (by simp) _
  have ho1 : W1.heap[w.heap.size + 1]? = some (.cells #[.func (.func 52) #[] #[]] 83 (0, 0)) := by rw [← hW1]; have := heap_alloc_new (w.alloc (.cells #[.slice A0 b.length c0] 36)) (.cells #[.func (.func 52) #[] #[]] 83); rwa [World.size_alloc] at this
  have ho0 : W1.heap[w.heap.size]? = some (.cells #[.slice A0 b.length c0] 36 (0, 0)) := by rw [← hW1]; exact (Below.heap_alloc _ _ _ (by simp)).trans (heap_alloc_new w _)
  have HST : Hid (LstSt w 0 (bestTo v b 0) W1) := Lib.hid ⟨hb1, by omega, ho1, _, ho0, HF.out.below hb1⟩
  rw [hW1]
  clear hW1 ho1 ho0
  refine wpIn_rangeVals (α := Value) (gf := 120) (lb := #[.pointer (some ⟨bw, 0, none⟩)]) rfl (enters_of Tryz.func120 (by kernel_rfl) rfl) (encs := fun x => #[x]) v.length (fun k x W => FreshW (w.heap.size + 2) x (rot v k) W) (fun A B => Below w.heap.size A B)
    (fun h k => h.trans k) (fun W l o o' hl ho hn => ⟨rfl, rfl, rfl, by simp, fun k hk => World.putObj_heap_other (by omega)⟩) (fun _ => rfl) (fun k x A l o o' h hl ho hn => fresh_putObj h ho hn)
    (fun l J Jx W hb hJa hJx hY h0 => rot73 (n - 1) l bw (w.heap.size + 2) J Jx W w A c v HBX.out HV.out HL.out (hb1.trans (hb.mono hb1.size)) (by have := hb.size; omega) hJa hY h0)
    (fun k W => LstSt w 0 (bestTo v b k) W) (fun _ _ => False) (fun k A B h hb => h.step hb) (fun _ _ _ h _ => h) (fun k A l o o' h hl ho hn => h.put (by omega) ho hn) (fun _ _ _ _ _ h _ _ _ => h)
    HST.out (fun x => bare61 (.slice A0 b.length c0) (.func (.func 120) #[] #[.pointer (some ⟨bw, 0, none⟩)]) w.heap.size x x) ?assign ?body ?done (fun _ _ _ _ h => h.elim)
  case assign =>
    rintro l x W K hK
    gi_wp2_with (rw [Oper.semAt_eq _ _ _ (fun c h => by cases h)]; go_simp)
    exact hK
  case body =>
    rintro l k x W hI hk hel hsz
    obtain ⟨u, h1, h2⟩ := hI.first
    have hcf : W.cell? ⟨w.heap.size, 0, none⟩ = some u := by rw [cell_of_row _ _ _ _ _ _ h1]; rfl
    have hcm : W.cell? ⟨w.heap.size + 1, 0, none⟩ = some (.func (.func 52) #[] #[]) := by rw [cell_of_row _ _ _ _ _ _ hI.cmp]; rfl
    have HSUCC : Hid (bestTo v b (k + 1) = if cmpW (rot v k) (bestTo v b k) < 0 then rot v k else bestTo v b k) := Lib.hid rfl
    have hmr := mild_rot HMV.out k
    have hmb := mild_best HMV.out HMB.out k
    have HC := Lib.hid (cmp46_any W x u (rot v k) (bestTo v b k) (hel.ints (Mild.fits hmr)) h2 hmr hmb)
    have HI := Lib.hid hI
    have HEL := Lib.hid hel
    have HFR := Lib.hid (Mild.fits hmr)
    have HSZ := Lib.hid hsz
    obtain ⟨A5, c5, rfl, -⟩ := hel
    obtain ⟨A6, c6, rfl, -, -, -⟩ := h2.open_
    clear hI h1 hmr hmb h2 hsz
    generalize rot v k = y at *
    generalize bestTo v b k = z at *
    generalize bestTo v b (k + 1) = z' at *
    simp only [bare61]
    by_cases hlt : cmpW y z < 0
    · have HZ : Hid (z' = y) := Lib.hid (by rw [HSUCC.out, if_pos hlt])
      have hd : decide (cmpW y z < 0) = true := decide_eq_true hlt
      generalize cmpW y z = r at *
      clear hlt HSUCC
      gi_wp2_with (first
        | (refine CallsIn.mono (show CallsIn Fence.wide _ _ _ _ _ _ from callsIn_wide.2 HC.out) ?_; rintro e W2 ⟨rfl, hg⟩
           have HG := Lib.hid hg
           have HI2 := Lib.hid (HI.out.step hg.below)
           have HE2 := Lib.hid (HEL.out.below hg.below)
           obtain ⟨u2, h3, -⟩ := HI2.out.first
           have hc2 : W2.cell? ⟨w.heap.size, 0, none⟩ = some u2 := by rw [cell_of_row _ _ _ _ _ _ h3]; rfl
           have hf2 : W2.frozen? ⟨w.heap.size, 0, none⟩ = false := by simp [World.frozen?, h3]
           clear hg h3)
        | (rw [Oper.semAt_eq _ _ _ (fun c h => by cases h)]; go_simp))
      have hSt := HI2.out.set HE2.out HFR.out
      have hwz : w.heap.size + 2 ≤ W.heap.size := HI.out.size
      refine ⟨⟨by simp [World.setCell]; exact HG.out.below.size, fun k o hk ho hn => ?_⟩, ?_, by rw [HZ.out]; exact hSt⟩
      · exact (Below.heap_setCell W2 ⟨w.heap.size, 0, none⟩ _ k (by show k ≠ w.heap.size; omega)).trans ((HG.out.below.block k (Array.getElem?_eq_some_iff.1 ho).1).trans ho)
      · exact (HG.out.below.mono (by omega)).trans ⟨rfl, rfl, rfl, by simp [World.setCell], fun k hk => Below.heap_setCell W2 ⟨w.heap.size, 0, none⟩ _ k (by show k ≠ w.heap.size; omega)⟩
    · have HZ : Hid (z' = z) := Lib.hid (by rw [HSUCC.out, if_neg hlt])
      have hd : decide (cmpW y z < 0) = false := decide_eq_false hlt
      generalize cmpW y z = r at *
      clear hlt HSUCC
      gi_wp2_with (first
        | (refine CallsIn.mono (show CallsIn Fence.wide _ _ _ _ _ _ from callsIn_wide.2 HC.out) ?_; rintro e W2 ⟨rfl, hg⟩
           have HG := Lib.hid hg
           have HI2 := Lib.hid (HI.out.step hg.below)
           clear hg)
        | (rw [Oper.semAt_eq _ _ _ (fun c h => by cases h)]; go_simp))
      have hwz : w.heap.size + 2 ≤ W.heap.size := HI.out.size
      exact ⟨⟨HG.out.below.size, fun k o hk ho hn => (HG.out.below.block k (Array.getElem?_eq_some_iff.1 ho).1).trans ho⟩, HG.out.below.mono (by omega), by rw [HZ.out]; exact HI2.out⟩
  case done =>
    rintro D W hD hI hDD
    obtain ⟨u, h1, h2⟩ := hI.first
    have hcf : W.cell? ⟨w.heap.size, 0, none⟩ = some u := by rw [cell_of_row _ _ _ _ _ _ h1]; rfl
    have HI := Lib.hid hI
    have HU := Lib.hid h2
    have HDD := Lib.hid hDD
    obtain ⟨A6, c6, rfl, -, -, -⟩ := h2.open_
    clear h2 hI hDD h1
    gi_wp2_with fail
    refine ⟨by simp, .inl ⟨_, _, rfl, run_takeDeferred HDD.out, ?_⟩⟩
    refine ⟨_, results_tmp rfl _ _ _, ?_⟩
    exact ⟨_, rfl, ints_putObj HU.out HDD.out rfl, HI.out.below.trans ⟨rfl, rfl, rfl, by simp, fun k hk => World.putObj_heap_other (by omega)⟩⟩
end Go.Proofs
namespace Go.Proofs.Tz
open Go.Proofs.Ct (W red inv mulW invW opp foldTo push redTo LOk)
theorem getD_mem' {l : List W} {j : Nat} (h : j < l.length) : l.getD j [] ∈ l := by
  rw [List.getD_eq_getElem?_getD, List.getElem?_eq_getElem h]
  exact List.getElem_mem h
theorem isG_iff {g x : Int} : isG g x = true ↔ x = g ∨ x = -g := by unfold isG; simp
theorem onceW_spec {w : W} {g : Int} {a : Nat} (h : onceW w g = some a) : a < w.length ∧ isG g (w.getD a 0) = true ∧ (∀ x ∈ w.take a, isG g x = false) ∧ ∀ x ∈ w.drop (a + 1), isG g x = false := by
  unfold onceW at h
  split at h
  · rename_i hc
    injection h with h
    have hlt : w.findIdx (isG g) < w.length := by
      rw [List.findIdx_lt_length]
      obtain ⟨x, h1, h2⟩ := List.countP_pos_iff.1 (show 0 < w.countP (isG g) by omega)
      exact ⟨x, h1, h2⟩
    rw [h] at hlt
    have hat : isG g w[a] = true := by
      have := List.findIdx_getElem (xs := w) (p := isG g) (w := by rw [h]; exact hlt)
      simp only [h] at this
      exact this
    have hbe : ∀ x ∈ w.take a, isG g x = false := fun x hx => by
      obtain ⟨i, hi, rfl⟩ := List.mem_iff_getElem.1 hx
      rw [List.length_take] at hi
      have hi2 : i < w.findIdx (isG g) := by rw [h]; omega
      have := List.not_of_lt_findIdx hi2
      rw [List.getElem_take]
      simpa using this
    refine ⟨hlt, by rw [List.getD_eq_getElem?_getD, List.getElem?_eq_getElem hlt]; exact hat, hbe, fun x hx => ?_⟩
    have e : w = w.take a ++ w[a] :: w.drop (a + 1) := by rw [List.getElem_cons_drop, List.take_append_drop]
    rw [e, List.countP_append, List.countP_cons, if_pos hat] at hc
    have h0 : (w.drop (a + 1)).countP (isG g) = 0 := by omega
    have := List.countP_eq_zero.1 h0 x hx
    simpa using this
  · cases h
theorem low_ok {n gen : Nat} {w : W} (hg : 1 ≤ gen ∧ gen ≤ n) (hw : LOk n w) (hno : ∀ x ∈ w, isG gen x = false) : LOk (n - 1) (lowW gen w) := fun y hy => by
  obtain ⟨x, hx, rfl⟩ := List.mem_map.1 hy
  have h1 := hw x hx
  have h2 : ¬ (x = (gen : Int) ∨ x = -(gen : Int)) := fun e => by have := hno x hx; rw [isG_iff.2 e] at this; cases this
  unfold lowI
  split
  · omega
  · split <;> omega
theorem length_low (g : Int) (w : W) : (lowW g w).length = w.length := by simp [lowW]
theorem img_mem {r : W} {a : Nat} {x : Int} (h : x ∈ imgW r a) : (x ∈ r.take a ∨ x ∈ r.drop (a + 1)) ∨ (-x ∈ r.take a ∨ -x ∈ r.drop (a + 1)) := by
  have hv : ∀ y, y ∈ mulW (invW (r.take a)) (invW (r.drop (a + 1))) → -y ∈ r.take a ∨ -y ∈ r.drop (a + 1) := fun y hy => by
    rcases List.mem_append.1 (Ct.red_mem hy) with h | h
    · exact .inl (Ct.mem_inv (Ct.red_mem h))
    · exact .inr (Ct.mem_inv (Ct.red_mem h))
  unfold imgW at h
  simp only at h
  split at h
  · have := hv _ (Ct.mem_inv (Ct.red_mem h))
    rw [Int.neg_neg] at this
    exact .inl this
  · exact .inr (hv x h)
theorem imgs_get {n gen : Nat} {v : W} {i : Nat} (hi : i < n) : (imgsW n gen v).getD i [] = if i + 1 = gen then lowW gen v else lowW gen [(i : Int) + 1] := by
  unfold imgsW
  simp [List.getD_eq_getElem?_getD, hi]
theorem length_imgs (n gen : Nat) (v : W) : (imgsW n gen v).length = n := by simp [imgsW]
theorem imgs_ok {n gen : Nat} {r : W} {a : Nat} (hg : 1 ≤ gen ∧ gen ≤ n) (hr : LOk n r) (h : onceW r gen = some a) : ∀ w ∈ imgsW n gen (imgW r a), LOk (n - 1) w := fun w hw => by
  obtain ⟨-, -, h1, h2⟩ := onceW_spec h
  obtain ⟨i, hi, rfl⟩ := List.mem_map.1 hw
  rw [List.mem_range] at hi
  split
  · have hm : ∀ x ∈ imgW r a, (x ∈ r ∧ isG gen x = false) ∨ (-x ∈ r ∧ isG gen (-x) = false) := fun x hx => by
      rcases img_mem hx with (h | h) | h | h
      · exact .inl ⟨List.mem_of_mem_take h, h1 _ h⟩
      · exact .inl ⟨List.mem_of_mem_drop h, h2 _ h⟩
      · exact .inr ⟨List.mem_of_mem_take h, h1 _ h⟩
      · exact .inr ⟨List.mem_of_mem_drop h, h2 _ h⟩
    refine low_ok hg (fun x hx => ?_) fun x hx => ?_
    · rcases hm x hx with ⟨h, -⟩ | ⟨h, -⟩
      · exact hr x h
      · have := hr _ h; omega
    · rcases hm x hx with ⟨-, h⟩ | ⟨-, h⟩
      · exact h
      · cases e : isG gen x with
        | false => rfl
        | true => rw [isG_iff] at e; rw [isG_iff.2 (by omega)] at h; cases h
  · rename_i hne
    refine low_ok hg (fun x hx => ?_) fun x hx => ?_
    · rw [List.mem_singleton.1 hx]; omega
    · rw [List.mem_singleton.1 hx]
      cases e : isG gen ((i : Int) + 1) with
      | false => rfl
      | true => rw [isG_iff] at e; omega
theorem sbTo_ok {g : Nat} {G : List W} (hG : ∀ w ∈ G, LOk g w) (z : W) : ∀ k, LOk g (sbTo G z k)
  | 0 => fun x hx => absurd hx List.not_mem_nil
  | k + 1 => fun x hx => by
    have hj : ∀ j, LOk g (G.getD j []) := fun j => by
      rcases Nat.lt_or_ge j G.length with h | h
      · exact hG _ (getD_mem' h)
      · rw [List.getD_eq_getElem?_getD, List.getElem?_eq_none h]; exact fun x hx => absurd hx List.not_mem_nil
    have hx' : x ∈ mulW (sbTo G z k) (if 0 < z.getD k 0 then G.getD (z.getD k 0 - 1).toNat [] else inv (G.getD (-(z.getD k 0) - 1).toNat [])) := hx
    rcases List.mem_append.1 (Ct.red_mem hx') with h | h
    · exact sbTo_ok hG z k x h
    · split at h
      · exact hj _ x h
      · exact (hj _).inv x h
theorem sbL_some {G l m : List W} (h : sbL G l = some m) : m = l.map (sbW G) ∧ ∀ z ∈ l, (sbW G z).length ≤ 4000 := by
  unfold sbL at h
  split at h
  · rename_i hc
    injection h with h
    exact ⟨h.symm, fun z hz => by have := List.all_eq_true.1 hc z hz; simpa using this⟩
  · cases h
theorem length_erase {l : List W} (k : Nat) : (l.eraseIdx k).length ≤ l.length := by rw [List.length_eraseIdx]; split <;> omega
/-- a valid presentation -/
structure Vld (n : Nat) (rels : List W) : Prop where
  n1 : 1 ≤ n
  n16 : n ≤ 16
  many : rels.length ≤ 100
  len : lenL rels ≤ 4000
  ok : ∀ w ∈ rels, LOk n w
theorem Cln.vld {n : Nat} {rels : List W} (h : Cln n rels) : Vld n rels := ⟨h.n1, h.n16, h.many, h.len, h.ok⟩
theorem Vld.clean {n : Nat} {rels : List W} (h : Vld n rels) : Cln n (cleanL rels) := cln_clean h.n1 h.n16 h.many h.len h.ok
theorem lenL_mem {l : List W} {w : W} (h : w ∈ l) : w.length ≤ lenL l := by
  induction l with
  | nil => exact absurd h List.not_mem_nil
  | cons x l ih =>
    rw [lenL_cons]
    rcases List.mem_cons.1 h with e | e
    · rw [e]; omega
    · have := ih e; omega
theorem elim_cln {n : Nat} {rels : List W} (h : Vld n rels) {rel gen : Nat} (hr : rel < rels.length) (hg : 1 ≤ gen ∧ gen ≤ n) {l im : List W} (e : elimE n rels rel gen = .inl (l, im)) :
    2 ≤ n ∧ Cln (n - 1) l ∧ im.length = n ∧ (∀ w ∈ im, LOk (n - 1) w) ∧ ∀ w ∈ im, w.length ≤ 1000 := by
  unfold elimE at e
  split at e
  · cases e
  · rename_i a ha
    split at e
    · cases e
    · rename_i hn
      simp only at e
      split at e
      · cases e
      · rename_i hv
        split at e
        · cases e
        · rename_i m hm
          split at e
          · cases e
          · rename_i hl
            injection e with e
            injection e with e1 e2
            obtain ⟨h1, h2⟩ := sbL_some hm
            have hrok := h.ok _ (getD_mem' hr)
            have hio := imgs_ok hg hrok ha
            subst e1 e2
            refine ⟨by have := h.n1; omega, cln_clean (by have := h.n1; omega) (by have := h.n16; omega) ?_ (by omega) (fun w hw => ?_), length_imgs _ _ _, hio, fun w hw => ?_⟩
            · rw [h1, List.length_map]
              have := length_erase (l := rels) rel
              have := h.many
              omega
            · rw [h1] at hw
              obtain ⟨z, -, rfl⟩ := List.mem_map.1 hw
              exact sbTo_ok hio z _
            · obtain ⟨i, -, rfl⟩ := List.mem_map.1 hw
              split
              · rw [length_low]; omega
              · rw [length_low]; simp
theorem turns_mem {r t : W} (hr : CyI r) (h : t ∈ turnsW r) : t.length = r.length ∧ CyI t ∧ ∀ g, LOk g r → LOk g t := by
  rcases List.mem_append.1 h with h | h
  · obtain ⟨k, hk, rfl⟩ := List.mem_map.1 h
    rw [List.mem_range] at hk
    exact ⟨length_rot _ (by omega), hr.rot (by omega), fun g hg x hx => hg x (mem_rot hx)⟩
  · obtain ⟨k, hk, rfl⟩ := List.mem_map.1 h
    rw [List.mem_range, hr.invW, length_inv'] at hk
    rw [hr.invW]
    exact ⟨by rw [length_rot _ (by rw [length_inv']; omega), length_inv'], hr.inv.rot (by rw [length_inv']; omega), fun g hg x hx => hg.inv x (mem_rot hx)⟩
theorem lenL_set : ∀ (l : List W) (k : Nat) (s : W), s.length ≤ (l.getD k []).length → lenL (l.set k s) ≤ lenL l
  | [], _, _, _ => by simp
  | x :: l, 0, s, h => by
    simp at h
    rw [List.set_cons_zero, lenL_cons, lenL_cons]; omega
  | x :: l, k + 1, s, h => by
    have := lenL_set l k s (by simpa using h)
    rw [List.set_cons_succ, lenL_cons, lenL_cons]; omega
theorem shortW_some {s w v : W} (hw : w ≠ []) (h : shortW s w = some v) : v.length < s.length ∧ ∀ g, LOk g s → LOk g w → LOk g v := by
  unfold shortW at h
  simp only at h
  split at h
  · rename_i hl
    split at h
    · rename_i k hk
      have hks : k < s.length := List.mem_range.1 (List.mem_of_find?_eq_some hk)
      injection h with h
      subst h
      have hwl := List.length_pos_iff.2 hw
      refine ⟨?_, fun g hs hw x hx => ?_⟩
      · have h1 := Ct.red_length (invW (w.drop (w.length / 2 + 1)) ++ (rot s k).drop (w.length / 2 + 1))
        have h2 := Ct.red_length (inv (w.drop (w.length / 2 + 1)))
        rw [Ct.length_inv, List.length_drop] at h2
        rw [List.length_append, List.length_drop, length_rot s (by omega)] at h1
        unfold Ct.mulW Ct.invW at *
        omega
      · rcases List.mem_append.1 (Ct.red_mem hx) with h | h
        · have h3 : LOk g (w.drop (w.length / 2 + 1)) := fun y hy => hw y (List.mem_of_mem_drop hy)
          exact h3.inv x (Ct.red_mem h)
        · exact hs x (mem_rot (List.mem_of_mem_drop h))
    · cases h
  · cases h
theorem pairs_mem {n i k : Nat} (h : (i, k) ∈ pairsN n) : i < n ∧ k < n ∧ i ≠ k := by
  unfold pairsN at h
  rw [List.mem_flatten] at h
  obtain ⟨l, h1, h2⟩ := h
  obtain ⟨i', h3, rfl⟩ := List.mem_map.1 h1
  obtain ⟨k', h4, h5⟩ := List.mem_map.1 h2
  injection h5 with e1 e2
  subst e1 e2
  rw [List.mem_filter, List.mem_range] at h4
  exact ⟨List.mem_range.1 h3, h4.1, fun e => by have := h4.2; simp [e] at this⟩
theorem short_cln {n : Nat} {rels l : List W} (h : Cln n rels) (e : shortF rels = some l) : Cln n l := by
  unfold shortF at e
  obtain ⟨⟨i, k⟩, h1, h2⟩ := List.exists_of_findSome?_eq_some e
  obtain ⟨hi, hk, -⟩ := pairs_mem h1
  obtain ⟨t, h3, h4⟩ := List.exists_of_findSome?_eq_some h2
  simp only [Option.map_eq_some_iff] at h4
  obtain ⟨v, h5, rfl⟩ := h4
  have hi' := getD_mem' hi
  have hk' := getD_mem' hk
  obtain ⟨t1, t2, t3⟩ := turns_mem (h.cy _ hi') h3
  have tne : t ≠ [] := fun e => h.ne _ hi' (List.eq_nil_of_length_eq_zero (by rw [← t1, e]; rfl))
  obtain ⟨s1, s2⟩ := shortW_some tne h5
  refine cln_clean h.n1 h.n16 (by rw [List.length_set]; exact h.many) ?_ fun w hw => ?_
  · have := lenL_set rels k v (by omega)
    have := h.len
    show lenL (rels.set k v) ≤ 4000
    omega
  · rcases List.mem_or_eq_of_mem_set hw with e | e
    · exact h.ok w e
    · rw [e]; exact s2 n (h.ok _ hk') (t3 n (h.ok _ hi'))
end Go.Proofs.Tz
namespace Go.Proofs
open Go.RowKit Go.Shelf Go.Lib Go.Sort Go.Proofs.Ct Go.Proofs.Tz Go.Maps
theorem mild_ok {g : Nat} (hg : g ≤ 1000) {x : List Int} (h : LOk g x) : ∀ z ∈ x, Mild z := fun z hz => by
  have := h z hz
  unfold Mild
  omega
set_option maxRecDepth 100000 in
theorem check59_ok (w : World) (u : Value) (x : List Int) (hu : IntsAt w u x) (hok : LOk 16 x) (hl : x.length ≤ 4000) : Calls Tryz.prog 89 #[u, .int .i64 16] w fun e w' => e = .returned (.int .i64 0) ∧ ∃ q, w' = w.drewN q := by
  obtain ⟨A, c, rfl, h1, h2, hc⟩ := hu.open_
  have HC := Lib.hid hc
  have HOK := Lib.hid hok
  have hx0 : (0 : Int) ≤ (x.length : Int) := Int.natCast_nonneg _
  have hx1 : (x.length : Int) ≤ 4000 := by omega
  clear hc hok hu
  go_enter Tryz.func89, Tryz.ntmps89
  go_wp2_with fail
  go_loopw [18] (fun z wr => ∃ k : Nat, k ≤ x.length ∧ z = .int .i64 k ∧ ∃ q, wr = w.drewN q) (fun z _ => x.length - (intOf z).toNat)
  case atStart => exact ⟨0, by omega, rfl, 0, rfl⟩
  case round =>
    obtain ⟨k, hk, rfl, q, rfl⟩ := hrel
    by_cases hkx : k < x.length
    · have hkx' : (k : Int) < (x.length : Int) := by omega
      obtain ⟨b, o, rfl, hcc⟩ := HC.out (by omega)
      have hcx := hcc k hkx
      obtain ⟨g1, g2, g3⟩ := HOK.out.getD hkx
      have HK := Lib.hid hkx
      clear hcc hkx
      generalize x.getD k 0 = z at *
      have d1 : (z == 0) = false := by simpa using g3
      have d2 : z ≤ 16 := by omega
      have d3 : -16 ≤ z := by omega
      clear g1 g2 g3
      go_wp2_with fail
      go_roundw
      case rel => exact ⟨k + 1, by have := HK.out; omega, by go_num, _, rfl⟩
      case measure => have := HK.out; simp [intOf]; omega
    · have hkx' : ¬ (k : Int) < (x.length : Int) := by omega
      obtain rfl : k = x.length := by omega
      go_wp2_with fail
      go_ret
      exact ⟨rfl, _, rfl⟩
theorem leastOf_mild {v : List Int} (h : ∀ z ∈ v, Mild z) : ∀ z ∈ leastZ v, Mild z := by
  unfold leastZ
  exact mild_best (fun z hz => mild_inv h z (Ct.red_mem hz)) (mild_best h h _) _
set_option maxRecDepth 100000 in
set_option maxHeartbeats 1000000 in
theorem least44_any (w : World) (u : Value) (x : List Int) (hu : IntsAt w u x) (hok : LOk 16 x) (hl : x.length ≤ 4000) : Calls Tryz.prog 50 #[u] w (OwnPost (leastW x) w) := by
  have hm := mild_ok (by omega) hok
  have HCH := Lib.hid (check59_ok w u x hu hok hl)
  have HCY : Hid (∀ q, Calls Tryz.prog 90 #[u] (w.drewN q) (OwnPost (cyc x) w)) := Lib.hid fun q => (cyclic60_any (w.drewN q) u x (hu.drewN q) hm (by omega)).mono fun e w' h => OwnPost.base (below_drewN (Below.refl _ _) q) h
  have hmc : ∀ z ∈ cyc x, Mild z := fun z hz => hm z ((cyc_sub x).1 z hz)
  have hlc : (cyc x).length ≤ 4000 := Nat.le_trans (cyc_sub x).2 hl
  have HE : Hid (leastW x = bestTo (invW (cyc x)) (bestTo (cyc x) (cyc x) (cyc x).length) (invW (cyc x)).length) := Lib.hid rfl
  have HMC := Lib.hid hmc
  have hli : (invW (cyc x)).length ≤ 4000 := by
    have := Ct.red_length (inv (cyc x))
    rw [Ct.length_inv] at this
    unfold Ct.invW
    omega
  have hmi : ∀ z ∈ invW (cyc x), Mild z := fun z hz => mild_inv hmc z (Ct.red_mem hz)
  have HMI := Lib.hid hmi
  have hlb : (bestTo (cyc x) (cyc x) (cyc x).length).length ≤ 4000 := by
    rcases bestTo_is (cyc x) (cyc x) (cyc x).length with e | ⟨j, hj, e⟩ <;> rw [e]
    · exact hlc
    · rw [length_rot _ (by omega)]; exact hlc
  have hmb := mild_best hmc hmc (cyc x).length
  have HMB := Lib.hid hmb
  have HI : Hid (∀ W v, IntsAt W v (cyc x) → Calls Tryz.prog 29 #[v] W (RedPost (inv (cyc x)) W)) := Lib.hid fun W v h => invert72_any W v (cyc x) h hmc (by omega)
  have HIE : Hid (invW (cyc x) = red (inv (cyc x))) := Lib.hid rfl
  obtain ⟨A, c, rfl, -, -, -⟩ := hu.open_
  clear hm hmc hmi hmb hu hok
  have hll : (leastW x).length ≤ 4000 := Nat.le_trans (leastW_len x) hl
  generalize leastW x = R at *
  generalize cyc x = v at *
  go_enter Tryz.func50, Tryz.ntmps50
  go_wp2_with (first
    | (go_at_call 89; (with_reducible refine HCH.out.mono ?_); rintro e w' ⟨rfl, q, rfl⟩)
    | (go_at_call 90; (with_reducible refine (HCY.out _).mono ?_); rintro e w1 ⟨A1, c1, rfl, ho, hb⟩
       have HV1 := Lib.hid (OwnI.ints ho (Mild.fits HMC.out))
       have HB1 := Lib.hid hb
       clear ho hb))
  have H62 : Hid (∀ W A c, IntsAt W (.slice A v.length c) v → Calls Tryz.prog 92 #[.slice A v.length c] W fun e w' => e = .returned (.func (.func 120) #[] #[.pointer (some ⟨W.heap.size, 0, none⟩)]) ∧ w' = W.alloc (.cells #[.slice A v.length c] 36)) := Lib.hid fun W A c h => rotations62_any W _ v h
  refine (H62.out _ _ _ HV1.out).mono ?_
  rintro e w2 ⟨rfl, rfl⟩
  have hal : Below w1.heap.size w1 (w1.alloc (.cells #[.slice A1 v.length c1] 36)) := (Below.refl _ _).alloc (Nat.le_refl _) _
  have H61 := Lib.hid (callsIn_wide.1 (least61_in 0 (w1.alloc (.cells #[.slice A1 v.length c1] 36)) (.slice A1 v.length c1) A1 c1 w1.heap.size v v (heap_alloc_new w1 _) (HV1.out.below hal) (HV1.out.below hal) (by omega) HMC.out HMC.out))
  have HB2 := Lib.hid (HB1.out.trans (hal.mono HB1.out.size))
  have HV2 := Lib.hid (HV1.out.below hal)
  clear hal
  go_wp2_with fail
  refine H61.out.mono ?_
  rintro e w3 ⟨u3, rfl, hu3, hb3⟩
  have HB3 := Lib.hid (HB2.out.trans (hb3.mono HB2.out.size))
  have HV3 := Lib.hid (HV2.out.below hb3)
  have HU3 := Lib.hid hu3
  obtain ⟨A3, c3, rfl, -, -, -⟩ := hu3.open_
  clear hu3 hb3 H61
  go_wp2_with fail
  refine (HI.out _ _ HV3.out).mono ?_
  rintro e w4 ⟨A4, c4, rfl, ho, hb⟩
  rw [← HIE.out] at ho
  rw [← HIE.out]
  have HB4 := Lib.hid (HB3.out.trans (hb.mono HB3.out.size))
  have HU4 := Lib.hid (HU3.out.below hb)
  have HV4 := Lib.hid (OwnI.ints ho (Mild.fits HMI.out))
  clear ho hb
  generalize invW v = vi at *
  generalize bestTo v v v.length = b at *
  have H62' : Hid (∀ W A c, IntsAt W (.slice A vi.length c) vi → Calls Tryz.prog 92 #[.slice A vi.length c] W fun e w' => e = .returned (.func (.func 120) #[] #[.pointer (some ⟨W.heap.size, 0, none⟩)]) ∧ w' = W.alloc (.cells #[.slice A vi.length c] 36)) := Lib.hid fun W A c h => rotations62_any W _ vi h
  go_wp2_with fail
  refine (H62'.out _ _ _ HV4.out).mono ?_
  rintro e w5 ⟨rfl, rfl⟩
  have hal : Below w4.heap.size w4 (w4.alloc (.cells #[.slice A4 vi.length c4] 36)) := (Below.refl _ _).alloc (Nat.le_refl _) _
  have H61 := Lib.hid (callsIn_wide.1 (least61_in 0 (w4.alloc (.cells #[.slice A4 vi.length c4] 36)) (.slice A3 b.length c3) A4 c4 w4.heap.size vi b (heap_alloc_new w4 _) (HV4.out.below hal) (HU4.out.below hal) (by omega) HMI.out HMB.out))
  have HB5 := Lib.hid (HB4.out.trans (hal.mono HB4.out.size))
  clear hal
  go_wp2_with fail
  refine H61.out.mono ?_
  rintro e w6 ⟨u6, rfl, hu6, hb6⟩
  rw [← HE.out] at hu6
  have HB6 := Lib.hid (HB5.out.trans (hb6.mono HB5.out.size))
  have HU6 := Lib.hid hu6
  obtain ⟨A6, c6, rfl, -, -, -⟩ := hu6.open_
  clear hu6 hb6 H61
  go_wp2_with fail
  refine (clone71_any w6 _ R HU6.out (by omega)).mono ?_
  rintro e w7 ⟨A7, c7, rfl, ho, hb⟩
  have HO := Lib.hid ho
  have HB7 := Lib.hid (HB6.out.trans (hb.mono HB6.out.size))
  clear ho hb
  go_wp2_with fail
  go_ret
  exact ⟨_, _, rfl, owns_base HO.out HB6.out.size, HB7.out⟩
end Go.Proofs
