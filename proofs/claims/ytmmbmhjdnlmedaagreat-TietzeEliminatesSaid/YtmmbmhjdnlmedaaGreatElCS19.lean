/- Drawn regions: what is kept may speak of the slots; tietze.Simplify: the lists of the new state as they are laid. -/
import Derived.Test.YtmmbmhjdnlmedaaGreatElCS18
import Derived.Test.YtmmbmhjdnlmedaaGreatElCS10
namespace Go.Proofs
open Go.RowKit Go.Shelf Go.Proofs.Ct Go.Maps
section
variable {F : Fence} {n : Nat} {P : Program} {ops : Array Oper} {Q : Exit → Act → World → Prop}
/-- the law of drawn regions, where what is kept may speak of the slots -/
theorem wpIn_region_act {id : Nat} {a0 : Act} {w : World} (hm : P.follows .mixedOrders = true) (N : Nat) (hN : ops.size = N) (dm : Nat → Option Tmp) (hlex : ∀ (i : Nat) (o : Oper), ops[i]? = some o → ∀ e ∈ o.after.toList, Region.binds .any e = true → e.on < i)
    (S : (Nat → Bool) → Act → World → Prop) (Φ : Nat → Value → World → Prop) (G : Nat → World → World → Prop)
    (hdm : ∀ i j t, i < N → j < N → dm i = some t → dm j = some t → i = j)
    (hΦ : ∀ i j v w w', i < N → j < N → i ≠ j → G i w w' → Φ j v w → Φ j v w')
    (hsz : ∀ i t, i < N → dm i = some t → t < a0.tmps.size) (h0 : S (fun _ => false) a0 w.drew)
    (hop : ∀ (ls : Nat → Bool) (i : Nat) (o : Oper) (a : Act) (w : World), i < N → ops[i]? = some o → S ls a w → ls i = false → (∀ (j : Nat) (oj : Oper), ops[j]? = some oj → ls j = true → ∀ e ∈ oj.after.toList, Region.binds .any e = true → ls e.on = true) → Part a0 dm N ls a →
      (∀ e ∈ o.after.toList, Region.binds .any e = true → ls e.on = true ∧ Φ e.on (slotv a (dm e.on)) w) →
      wpOpIn F n P ops Q i (fun a' w' => ∃ v, a' = a.put (dm i) v ∧ S (fun j => if i = j then true else ls j) a' w' ∧ G i w w' ∧ (dm i = none → v = undef) ∧ Φ i v w') a w)
    (hend : ∀ (ls : Nat → Bool) (a : Act) (w : World), (∀ i, i < N → ls i = true) → S ls a w → Part a0 dm N ls a → (∀ i, i < N → Φ i (slotv a (dm i)) w) → Q .normal a w) :
    (Code.region id ops true).wpIn F n P Q a0 w := by
  subst hN
  refine wpIn_region_any hm ?_
  refine wpAnyIn_inv (fun listed a w => Closed ops listed ∧ S (fun j => listed.getD j false) a w ∧ Part a0 dm ops.size (fun j => listed.getD j false) a ∧ ∀ i, i < ops.size → listed.getD i false = true → Φ i (slotv a (dm i)) w) ?_ ?_ ops.size _ a0 _ (by simp) ?_ ⟨fun i o ho h => ?_, ?_, ⟨rfl, rfl, fun _ _ => rfl⟩, fun i hi h => ?_⟩
  · rintro listed a w i hls ⟨hcl, hS, hP, hsl⟩ hi
    obtain ⟨h1, h2, o, ho, hpre⟩ := ready_mem hi
    rw [getD_true_false (by omega)] at h2
    have hsetD : ∀ j, (listed.setIfInBounds i true).getD j false = if i = j then true else listed.getD j false := fun j => getD_set_listed (by omega)
    have hcl' : Closed ops (listed.setIfInBounds i true) := fun j oj hoj hl e he hb => by
      rw [hsetD] at hl ⊢
      by_cases eij : i = j
      · subst eij
        rw [ho] at hoj; cases hoj
        have := hpre e he hb
        split
        · rfl
        · exact this
      · rw [if_neg eij] at hl
        have := hcl j oj hoj hl e he hb
        split
        · rfl
        · exact this
    have hwp := hop _ i o a w h1 ho hS h2 (fun j oj hoj hl => hcl j oj hoj hl) hP (fun e he hb => ⟨hpre e he hb, hsl e.on (by have := hlex i o ho e he hb; omega) (hpre e he hb)⟩)
    refine wpOpIn_mono (fun a' w' h => ?_) hwp
    obtain ⟨v, rfl, hS', hG, hvn, hv⟩ := h
    rw [show (fun j => if i = j then true else listed.getD j false) = (fun j => (listed.setIfInBounds i true).getD j false) from (funext hsetD).symm] at hS'
    have hP' := hP.put h1 v
    rw [show (fun j => if i = j then true else listed.getD j false) = (fun j => (listed.setIfInBounds i true).getD j false) from (funext hsetD).symm] at hP'
    refine ⟨hcl', hS', hP', fun j hj hl => ?_⟩
    by_cases e : i = j
    · subst e
      have : slotv (a.put (dm i) v) (dm i) = v := by
        cases hdi : dm i with
        | none => rw [hvn hdi]; rfl
        | some t => exact put_getD_same _ _ _ (by rw [hP.size]; exact hsz i t h1 hdi)
      rw [this]
      exact hv
    · rw [hsetD, if_neg e] at hl
      have := hΦ i j _ _ _ h1 hj e hG (hsl j hj hl)
      have hv' : slotv (a.put (dm i) v) (dm j) = slotv a (dm j) := by
        cases hdj : dm j with
        | none => rfl
        | some t =>
          cases hdi : dm i with
          | none => rfl
          | some t' => exact put_getD_ne _ _ _ _ (fun e' => e (hdm i j t h1 hj (by rw [hdi, e']) hdj))
      rw [hv']
      exact this
  · rintro listed a w hls ⟨hcl, hS, hP, hsl⟩ hr
    have hready : ∀ i, i < ops.size → listed.getD i false = true := by
      intro i
      induction i using Nat.strongRecOn with
      | _ i ih =>
        intro hi
        rcases hl : listed.getD i false with _ | _
        · have hmem : i ∈ Region.ready .any ops listed := by
            simp only [Region.ready, List.mem_filter, List.mem_range, Bool.and_eq_true, Bool.not_eq_true']
            refine ⟨hi, by rw [getD_true_false (by omega)]; exact hl, ?_⟩
            rw [Array.getElem?_eq_getElem hi]
            simp only [Option.map_some, Option.getD_some]
            rw [Array.all_eq_true_iff_forall_mem]
            intro e he
            by_cases hb : Region.binds .any e = true
            · have hlt := hlex i _ (Array.getElem?_eq_getElem hi) e (by simpa using he) hb
              simp [ih e.on hlt (by omega)]
            · simp [hb]
          rw [hr] at hmem; cases hmem
        · rfl
    exact hend _ a w hready hS hP (fun i hi => hsl i hi (hready i hi))
  · simp
  · have : (Array.replicate ops.size false).getD i false = false := by
      simp only [Array.getD_eq_getD_getElem?, Array.getElem?_replicate]; split <;> rfl
    rw [this] at h; cases h
  · rw [show (fun j => (Array.replicate ops.size false).getD j false) = (fun _ => false) from funext fun j => by simp only [Array.getD_eq_getD_getElem?, Array.getElem?_replicate]; split <;> rfl]
    exact h0
  · have : (Array.replicate ops.size false).getD i false = false := by
      simp only [Array.getD_eq_getD_getElem?, Array.getElem?_replicate]; split <;> rfl
    rw [this] at h; cases h
end
theorem slotv_put_ne {a : Act} {s t : Tmp} {v : Value} (h : s ≠ t) : slotv (a.put (some s) v) (some t) = slotv a (some t) := put_getD_ne _ _ _ _ h
end Go.Proofs
namespace Go.Proofs
open Go.RowKit Go.Shelf Go.Lib Go.Sort Go.Proofs.Ct Go.Proofs.Tz Go.Maps
/-- words and numbers of the call's own, side by side -/
structure LS (B : Nat) (F : Nat → Prop) (W : World) (vi vb : Value) (rows : List (List Int)) (nums : List Int) : Prop where
  out : OwnT 36 B F W vi rows
  fs : ∀ k, F k → B ≤ k ∧ k < W.heap.size ∧ ∃ C, W.heap[k]? = some (.cells C 3 (0, 0))
  row : OwnI B W vb nums
  ap : ∀ r, vb.ownBlock = some r → ¬ F r
section
variable {B : Nat} {F : Nat → Prop} {W W' : World} {vi vb : Value} {rows : List (List Int)} {nums : List Int}
theorem LS.nil (B : Nat) (W : World) : LS B (fun _ => False) W (.slice none 0 0) (.slice none 0 0) [] [] :=
  ⟨⟨[], World.ownsRow_nil _ _ _ _, RowsF.nil _ _⟩, fun k hk => hk.elim, World.ownsRow_nil _ _ _ _, fun r hr => by cases hr⟩
theorem LS.keep (h : LS B F W vi vb rows nums) (hs : W.heap.size ≤ W'.heap.size) (hk : ∀ (k : Nat) (C : Array Value) (t : TypeId), W.heap[k]? = some (Obj.cells C t (0, 0)) → t = 3 ∨ t = 36 → W'.heap[k]? = W.heap[k]?) : LS B F W' vi vb rows nums := by
  refine ⟨h.out.keep (fun r hr => ?_) (fun r hr => ?_) fun _ h => h, fun k hk' => ?_, owns_keep h.row fun r hr => ?_, h.ap⟩
  · obtain ⟨-, C, hC⟩ := h.out.block r hr
    exact hk r C 36 hC (.inr rfl)
  · obtain ⟨-, -, C, hC⟩ := h.fs r hr
    exact hk r C 3 hC (.inl rfl)
  · obtain ⟨h1, h2, C, hC⟩ := h.fs k hk'
    exact ⟨h1, Nat.lt_of_lt_of_le h2 hs, C, (hk k C 3 hC (.inl rfl)).trans hC⟩
  · obtain ⟨-, C, hC⟩ := owns_block h.row r hr
    exact hk r C 3 hC (.inl rfl)
theorem LS.below (h : LS B F W vi vb rows nums) (hb : Below W.heap.size W W') : LS B F W' vi vb rows nums :=
  h.keep hb.size fun _ _ _ hC _ => hb.block _ (Array.getElem?_eq_some_iff.1 hC).1
theorem LS.box (h : LS B F W vi vb rows nums) {xb : Nat} {cs : Array Value} (hx : W.heap[xb]? = some (.cells cs 68 (0, 0))) (hg : W.grownBy W' (some xb)) : LS B F W' vi vb rows nums :=
  h.keep hg.size fun k C t hC ht => hg.block k (Array.getElem?_eq_some_iff.1 hC).1 fun e => by
    obtain rfl := Option.some.inj e
    rw [hx] at hC
    injection hC with h5
    injection h5 with _ h6 _
    rcases ht with rfl | rfl <;> exact absurd h6 (by decide)
/-- a word joins the words -/
theorem LS.pushRow (h : LS B F W vi vb rows nums) {u : Value} {b : Nat} {z : Int} (hu : Sl W u [.slice (some ⟨b, 0, none⟩) 1 1]) (hw : W.heap[b]? = some (.cells #[.int .i64 z] 3 (0, 0))) (hb : B ≤ b) (hne : vb.ownBlock ≠ some b) (hz : -9223372036854775808 ≤ z ∧ z ≤ 9223372036854775807) (hl : rows.length ≤ 1000000) (hB : B ≤ W.heap.size) :
    ∃ A' c' w', (Builtin.append_ #[22, 22] 22 #[vi, u]).run Tryz.prog W = .ok (.slice A' (rows.length + 1) c') w' ∧ LS B (fun k => F k ∨ k = b) w' (.slice A' (rows.length + 1) c') vb (rows ++ [[z]]) nums ∧ W.grownBy w' vi.ownBlock := by
  obtain ⟨vals, ho, hr⟩ := h.out
  obtain ⟨A', c', w', hrun, ho', hg, hw'⟩ := run_app (ty := 22) Tryz.underlying22 info25p rfl (by omega) W B vi rows.length vals ho u _ hu (by simp [Value.oneCell']) hl (by simp) hB
  have hbl := (Array.getElem?_eq_some_iff.1 hw).1
  have hnew : w'.heap[b]? = some (.cells #[.int .i64 z] 3 (0, 0)) := (hg.block b hbl (fun e => by
    obtain ⟨-, C, hC⟩ := h.out.block b e.symm
    rw [hw] at hC
    injection hC with h5
    injection h5 with _ h6 _
    exact absurd h6 (by decide))).trans hw
  have hFg : ∀ r, F r → r < W.heap.size ∧ vi.ownBlock ≠ some r := fun r hr => by
    obtain ⟨-, h2, C, hC⟩ := h.fs r hr
    refine ⟨h2, fun e => ?_⟩
    obtain ⟨-, C', hC'⟩ := h.out.block r e
    rw [hC] at hC'
    injection hC' with h5
    injection h5 with _ h6 _
    exact absurd h6 (by decide)
  refine ⟨A', c', w', hrun, ⟨⟨vals ++ [.slice (some ⟨b, 0, none⟩) 1 1], ?_, ?_⟩, fun k hk => ?_, owns_keep h.row fun r hr' => ?_, fun r hr' hF => ?_⟩, hg⟩
  · rw [List.length_append]; exact ho'
  · have h1 := (hr.keep (Ag.grown hg hFg) (G := fun k => F k ∨ k = b) fun k hk => .inl hk)
    refine h1.snoc fun w'' hag => ?_
    have hb'' : w''.heap[b]? = some (.cells #[.int .i64 z] 3 (0, 0)) := (hag b (.inr rfl)).trans hnew
    have hf : Fits [z] := fun y hy => by rw [List.mem_singleton.1 hy]; exact hz
    exact ints_blk (xs := [z]) hb'' hf rfl (by omega)
  · rcases hk with hk | rfl
    · obtain ⟨h1, h2, C, hC⟩ := h.fs k hk
      exact ⟨h1, Nat.lt_of_lt_of_le h2 hg.size, C, (hg.block k h2 (hFg k hk).2.symm).trans hC⟩
    · exact ⟨hb, Nat.lt_of_lt_of_le hbl hg.size, _, hnew⟩
  · obtain ⟨-, C, hC⟩ := owns_block h.row r hr'
    refine hg.block r (Array.getElem?_eq_some_iff.1 hC).1 fun e => ?_
    obtain ⟨-, C', hC'⟩ := h.out.block r e.symm
    rw [hC] at hC'
    injection hC' with h5
    injection h5 with _ h6 _
    exact absurd h6 (by decide)
  · rcases hF with hF | rfl
    · exact h.ap r hr' hF
    · exact hne hr'
/-- a number joins the numbers -/
theorem LS.pushNum (h : LS B F W vi vb rows nums) {u : Value} {z : Int} (hu : IntsAt W u [z]) (hl : nums.length ≤ 1000000) (hB : B ≤ W.heap.size) :
    ∃ A' c' w', (Builtin.append_ #[35, 35] 35 #[vb, u]).run Tryz.prog W = .ok (.slice A' (nums.length + 1) c') w' ∧ LS B F w' vi (.slice A' (nums.length + 1) c') rows (nums ++ [z]) ∧ W.grownBy w' vb.ownBlock := by
  obtain ⟨A', c', w', hrun, ho', hg, hw'⟩ := app_ints 35 35 Tryz.underlying35 W B vb nums h.row u [z] hu hl (by simp) hB
  rw [List.length_append, List.length_singleton] at hrun ho' hw'
  have hFg : ∀ r, F r → r < W.heap.size ∧ vb.ownBlock ≠ some r := fun r hr => ⟨(h.fs r hr).2.1, fun e => h.ap r e hr⟩
  refine ⟨A', c', w', hrun, ⟨h.out.keep (fun r hr => ?_) (Ag.grown hg hFg) fun _ h => h, fun k hk => ?_, ho', fun r hr hF => ?_⟩, hg⟩
  · obtain ⟨-, C, hC⟩ := h.out.block r hr
    refine hg.block r (Array.getElem?_eq_some_iff.1 hC).1 fun e => ?_
    obtain ⟨-, C', hC'⟩ := owns_block h.row r e.symm
    rw [hC] at hC'
    injection hC' with h5
    injection h5 with _ h6 _
    exact absurd h6 (by decide)
  · obtain ⟨h1, h2, C, hC⟩ := h.fs k hk
    exact ⟨h1, Nat.lt_of_lt_of_le h2 hg.size, C, (hg.block k h2 (hFg k hk).2.symm).trans hC⟩
  · rcases hw' with e | ⟨q, e, hq⟩
    · rw [e] at hr
      exact h.ap r hr hF
    · rw [e] at hr
      obtain rfl := Option.some.inj hr
      exact absurd (h.fs _ hF).2.1 (by omega)
end
theorem build65 (g : Int) (A : Option Addr) (n c : Nat) (w : World) : (Instr.build 68 #[(0, .agg #[.int .i64 g, .slice A n c])]).run Tryz.prog w = .ok (.agg #[.int .i64 g, .slice A n c, .slice none 0 0, .slice none 0 0, .int .i64 0]) w := by kernel_rfl
theorem bs24_1 (z : Int) (w : World) : (Instr.buildSlice 36 1 #[(0, .int .i64 z)]).run Tryz.prog w = .ok (.slice (some ⟨w.heap.size, 0, none⟩) 1 1) (w.alloc (.cells #[.int .i64 z] 3)) := by kernel_rfl
theorem bs23_1 (z : Int) (w : World) : (Instr.buildSlice 35 1 #[(0, .int .i64 z)]).run Tryz.prog w = .ok (.slice (some ⟨w.heap.size, 0, none⟩) 1 1) (w.alloc (.cells #[.int .i64 z] 3)) := by kernel_rfl
theorem bs25_1' (A : Option Addr) (n c : Nat) (w : World) : (Instr.buildSlice 22 1 #[(0, .slice A n c)]).run Tryz.prog w = .ok (.slice (some ⟨w.heap.size, 0, none⟩) 1 1) (w.alloc (.cells #[.slice A n c] 36)) := by kernel_rfl
section
variable {o : Oper} {a : Act} {w w' : World}
theorem r_bs24_1 (x : Operand) (z : Int) (ho : o.op = .buildSlice 36 1 #[(0, x)]) (hx : a.eval x = .int .i64 z) : (execOp a.eval o).run Tryz.prog w = .ok (.value (.slice (some ⟨w.heap.size, 0, none⟩) 1 1)) (w.alloc (.cells #[.int .i64 z] 3)) := by
  have hb := bs24_1 z w
  unfold execOp
  simp only [ho, List.map_toArray, List.map_cons, List.map_nil, hx, Sem.run_bind, hb, Result.andThen_ok]
  rfl
theorem r_bs23_1 (x : Operand) (z : Int) (ho : o.op = .buildSlice 35 1 #[(0, x)]) (hx : a.eval x = .int .i64 z) : (execOp a.eval o).run Tryz.prog w = .ok (.value (.slice (some ⟨w.heap.size, 0, none⟩) 1 1)) (w.alloc (.cells #[.int .i64 z] 3)) := by
  have hb := bs23_1 z w
  unfold execOp
  simp only [ho, List.map_toArray, List.map_cons, List.map_nil, hx, Sem.run_bind, hb, Result.andThen_ok]
  rfl
theorem r_bs25_1 (x : Operand) (A : Option Addr) (n c : Nat) (ho : o.op = .buildSlice 22 1 #[(0, x)]) (hx : a.eval x = .slice A n c) : (execOp a.eval o).run Tryz.prog w = .ok (.value (.slice (some ⟨w.heap.size, 0, none⟩) 1 1)) (w.alloc (.cells #[.slice A n c] 36)) := by
  have hb := bs25_1' A n c w
  unfold execOp
  simp only [ho, List.map_toArray, List.map_cons, List.map_nil, hx, Sem.run_bind, hb, Result.andThen_ok]
  rfl
end
end Go.Proofs
