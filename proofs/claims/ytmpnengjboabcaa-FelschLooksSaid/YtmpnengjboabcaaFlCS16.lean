/- The reference of Felsch's strategy: rotations, words; As T2's law; the fact of an operation without a slot (a store) may name the value of a slot that it takes; Helpers of felsch.words: the closure of ContainsFunc, a pair of rows, a box that a row is stored into; The reference of Felsch's strategy: the words of a letter; felsch.words; felsch.Words and the reference's; The cosets of Felsch's strategy: scans; The reference of Felsch's strategy: fill, scans. -/
import Derived.Test.YtmpnengjboabcaaFlCS13
import Derived.Test.YtmpnengjboabcaaFlCS15
import Derived.Test.YtmpnengjboabcaaFlCS9
import Derived.Test.YtmpnengjboabcaaFlCS6
import Derived.Test.YtmpnengjboabcaaFlCS11
import Derived.Test.YtmpnengjboabcaaFlCS1
import Derived.Test.YtmpnengjboabcaaFlCS10
namespace Go.Proofs
open Go.RowKit Go.Shelf Go.Proofs.Ct Go.Maps
def Grw (w w' : World) (v v' : Value) : Prop := w.heap.size ≤ w'.heap.size ∧ (∀ k, k < w.heap.size → v.ownBlock ≠ some k → w'.heap[k]? = w.heap[k]?) ∧ ∀ r, v'.ownBlock = some r → v.ownBlock = some r ∨ w.heap.size ≤ r
theorem Grw.of_below {w w' : World} (h : Below w.heap.size w w') (v : Value) : Grw w w' v v := ⟨h.size, fun k hk _ => h.block k hk, fun _ hr => .inl hr⟩
theorem Grw.trans {w w1 w2 : World} {v v1 v2 : Value} (h : Grw w w1 v v1) (h' : Grw w1 w2 v1 v2) : Grw w w2 v v2 := by
  refine ⟨Nat.le_trans h.1 h'.1, fun k hk hn => (h'.2.1 k (Nat.lt_of_lt_of_le hk h.1) fun e => ?_).trans (h.2.1 k hk hn), fun r hr => ?_⟩
  · rcases h.2.2 k e with h1 | h1
    · exact hn h1
    · omega
  · rcases h'.2.2 r hr with h1 | h1
    · exact h.2.2 r h1
    · exact .inr (Nat.le_trans h.1 h1)
theorem OutSt2.done2 {t e : TypeId} (he : e ≠ 3) (ht : Try.prog.underlying t = some (.slice e)) (hi : ∃ i, Try.prog.info? e = some i ∧ i.zero = some (.slice none 0 0) ∧ i.size = 1 ∧ i.bytes = 24) {F : Nat → Prop} {w0 wr : World} {vout : Value} {A : Option Addr} {n c : Nat} {rows : List (List Int)} {x : List Int} (h : OutSt2 e F w0 wr vout (.slice A n c) rows x) (hf : Fits x) (hl : rows.length ≤ 1000000) :
    ∃ A' c' w', (Builtin.append_ #[t, t] t #[vout, .slice (some ⟨wr.heap.size, 0, none⟩) 1 1]).run Try.prog (wr.alloc (.cells #[.slice A n c] e)) = .ok (.slice A' (rows.length + 1) c') w' ∧
      OutSt e (fun k => F k ∨ (Value.slice A n c).ownBlock = some k) w0 w' (.slice A' (rows.length + 1) c') (rows ++ [x]) ∧ Grw wr w' vout (.slice A' (rows.length + 1) c') := by
  have hub := h.st.out.block
  have hrb := owns_block h.row
  have hne : ∀ {k : Nat} {C : Array Value} {fr : Nat × Nat}, wr.heap[k]? = some (.cells C 3 fr) → vout.ownBlock ≠ some k := fun {k C fr} hc e' => by
    obtain ⟨-, C', hC'⟩ := hub k e'
    rw [hc] at hC'
    injection hC' with h5
    injection h5 with _ h6 _
    exact he h6.symm
  have hF2 : ∀ k, (F k ∨ (Value.slice A n c).ownBlock = some k) → k < wr.heap.size ∧ vout.ownBlock ≠ some k := fun k hk => by
    rcases hk with hk | hk
    · obtain ⟨h1, h2, C, hC⟩ := h.st.fs k hk
      exact ⟨h2, hne hC⟩
    · obtain ⟨h1, C, hC⟩ := hrb k hk
      exact ⟨(Array.getElem?_eq_some_iff.1 hC).1, hne hC⟩
  obtain ⟨A', c', w', hr, ho', hg, hw⟩ := push_row (ty := t) ht hi wr w0.heap.size (fun k => F k ∨ (Value.slice A n c).ownBlock = some k) vout rows (h.st.out.keep (fun _ _ => rfl) (Ag.refl _ _) (fun k hk => .inl hk)) A n c x ((IntsF.of_own h.row hf).mono fun k hk => .inr hk) hF2 (by omega) h.st.below.size
  refine ⟨A', c', w', hr, ⟨h.st.below.grown hg h.st.below.size (fun k hk => (hub k hk).1), ho', fun k hk => ?_⟩, hg.size, fun k hk hn => hg.block k hk (Ne.symm hn), fun r hr' => ?_⟩
  · have h2 := (hF2 k hk).1
    rcases hk with hk | hk
    · obtain ⟨h1, _, C, hC⟩ := h.st.fs k hk
      exact ⟨h1, Nat.lt_of_lt_of_le h2 hg.size, C, grown_cells hg hC (hne hC)⟩
    · obtain ⟨h1, C, hC⟩ := hrb k hk
      exact ⟨h1, Nat.lt_of_lt_of_le h2 hg.size, C, grown_cells hg hC (hne hC)⟩
  · rcases hw with hw | ⟨r', hr2, hge⟩
    · exact .inl (hw ▸ hr')
    · rw [hr2] at hr'
      exact .inr (Option.some.inj hr' ▸ hge)
theorem r_lo25 {o : Oper} {a : Act} {w : World} {v : Value} (x y : Operand) (A : Option Addr) (n c k : Nat) (ho : o.op = .slice 25 x (some y) none none) (hx : a.eval x = .slice A n c) (hy : a.eval y = .int .i64 (k : Int)) (hk : k ≤ n) (hv : sliced A k n c 1 = v) : (execOp a.eval o).run Try.prog w = .ok (.value v) w := by
  rw [← hv]; exact r_slice_lo25 x y A n c k ho hx hy hk
theorem r_hi25 {o : Oper} {a : Act} {w : World} {v : Value} (x y : Operand) (A : Option Addr) (n c h : Nat) (ho : o.op = .slice 25 x none (some y) none) (hx : a.eval x = .slice A n c) (hy : a.eval y = .int .i64 (h : Int)) (hc : h ≤ c) (hv : sliced A 0 h c 1 = v) : (execOp a.eval o).run Try.prog w = .ok (.value v) w := by
  rw [← hv]
  have hu := under25e
  have hs : (sizeOf (Try.prog.elem 25)).run Try.prog w = .ok 1 w := by kernel_rfl
  unfold execOp
  simp only [ho, hx, hy, Option.map_none, Option.map_some, Sem.run_bind, run_sliceAt_slice w 25 _ _ _ _ hu, run_slice_h w 25 A n c hu .i64 (h : Int) (by omega) (by omega)]
  simp [hs]
theorem rotTo_len (l : List W) (w : W) (x : Int) (k : Nat) : (rotTo l w x k).length ≤ l.length + k := by
  induction k with
  | zero => exact Nat.le_refl _
  | succ k ih =>
    rw [show rotTo l w x (k + 1) = (if w.getD k 0 = x ∧ w.drop k ++ w.take k ∉ rotTo l w x k then rotTo l w x k ++ [w.drop k ++ w.take k] else rotTo l w x k) from rfl]
    split
    · rw [List.length_append]; simp only [List.length_singleton]; omega
    · omega
end Go.Proofs
namespace Go.Proofs
open Go.RowKit Go.Shelf Go.Proofs.Ct Go.Maps
section
variable {F : Fence} {n : Nat} {P : Program} {ops : Array Oper} {Q : Exit → Act → World → Prop}
theorem wpIn_region_tie {id : Nat} {a0 : Act} {w : World} (hm : P.follows .mixedOrders = true) (N : Nat) (hN : ops.size = N) (dm : Nat → Option Tmp) (hlex : ∀ (i : Nat) (o : Oper), ops[i]? = some o → ∀ e ∈ o.after.toList, Region.binds .any e = true → e.on < i)
    (base : Nat) (wr : Nat → Bool) (us : Nat → Nat → Bool) (S : World → Prop) (Φ : Nat → Value → (Nat → Prop) → World → Prop)
    (tk : Nat → Nat) (htk : ∀ j, j < N → tk j = j ∨ (dm j = none ∧ tk j < N ∧ us j (tk j) = true)) (hus : usB ops N us = true) (huq : uqB N wr us = true)
    (hdm : ∀ i j t, i < N → j < N → dm i = some t → dm j = some t → i = j)
    (hst : ∀ (j : Nat) (v : Value) (O : Nat → Prop) (W W' : World), j < N → (∀ k, O k → k < W.heap.size) → (∀ k, O k → W'.heap[k]? = W.heap[k]?) → W.heap.size ≤ W'.heap.size → S W → S W' → Φ j v O W → Φ j v O W')
    (hsz : ∀ i t, i < N → dm i = some t → t < a0.tmps.size) (hbase : base ≤ w.heap.size) (h0 : S w.drew)
    (hop : ∀ (O : Nat → Nat → Prop) (ls : Nat → Bool) (i : Nat) (o : Oper) (a : Act) (w : World), i < N → ops[i]? = some o → S w → base ≤ w.heap.size → ls i = false → Part a0 dm N ls a →
      (∀ j, j < N → us i j = true → Φ j (slotv a (dm (tk j))) (O j) w ∧ ∀ k, O j k → base ≤ k ∧ k < w.heap.size) →
      (∀ j j' k, j < N → j' < N → us i j = true → us i j' = true → j ≠ j' → wr j = true → O j k → ¬ O j' k) →
      wpOpIn F n P ops Q i (fun a' w' => ∃ v O', a' = a.put (dm i) v ∧ S w' ∧ (dm i = none → v = undef) ∧ Step N wr us O i O' w w' ∧ Φ i (if dm i = none then slotv a (dm (tk i)) else v) O' w') a w)
    (hend : ∀ (O : Nat → Nat → Prop) (ls : Nat → Bool) (a : Act) (w : World), (∀ i, i < N → ls i = true) → S w → base ≤ w.heap.size → Part a0 dm N ls a → (∀ j, j < N → (wr j = false ∨ ∀ i, i < N → us i j = false) → Φ j (slotv a (dm (tk j))) (O j) w ∧ ∀ k, O j k → base ≤ k ∧ k < w.heap.size) → Q .normal a w) :
    (Code.region id ops true).wpIn F n P Q a0 w := by
  subst hN
  have hus' := us_of hus
  have huq' := uq_of huq
  refine wpIn_region_any hm ?_
  let lv : (Nat → Bool) → Nat → Prop := fun ls j => ls j = true ∧ ∀ i, i < ops.size → us i j = true → wr j = true → ls i = false
  refine wpAnyIn_inv (fun listed a w => Closed ops listed ∧ S w ∧ base ≤ w.heap.size ∧ Part a0 dm ops.size (fun j => listed.getD j false) a ∧ ∃ O : Nat → Nat → Prop,
    (∀ j k, j < ops.size → listed.getD j false = true → O j k → base ≤ k ∧ k < w.heap.size) ∧
    (∀ j j' k, j < ops.size → j' < ops.size → lv (fun j => listed.getD j false) j → lv (fun j => listed.getD j false) j' → j ≠ j' → wr j = true → O j k → ¬ O j' k) ∧
    (∀ j, j < ops.size → lv (fun j => listed.getD j false) j → Φ j (slotv a (dm (tk j))) (O j) w)) ?_ ?_ ops.size _ a0 _ (by simp) ?_ ⟨fun i o ho h => ?_, h0, hbase, ⟨rfl, rfl, fun _ _ => rfl⟩, fun _ _ => False, fun j k _ _ h => h.elim, fun j j' k _ _ _ _ _ _ h => h.elim, fun j hj h => ?_⟩
  · rintro listed a w i hls ⟨hcl, hS, hbw, hP, O, hOb, hOd, hsl⟩ hi
    obtain ⟨h1, h2, o, ho, hpre⟩ := ready_mem hi
    rw [getD_true_false (by omega)] at h2
    have hsetD : ∀ j, (listed.setIfInBounds i true).getD j false = if i = j then true else listed.getD j false := fun j => getD_set_listed (by omega)
    have hcl' : Closed ops (listed.setIfInBounds i true) := fun j oj hoj hl e he hb => by
      rw [hsetD] at hl ⊢
      by_cases eij : i = j
      · subst eij
        rw [ho] at hoj; cases hoj
        have := hpre e he hb
        split
        · rfl
        · exact this
      · rw [if_neg eij] at hl
        have := hcl j oj hoj hl e he hb
        split
        · rfl
        · exact this
    -- what i takes is live
    have hlive : ∀ j, j < ops.size → us i j = true → lv (fun j => listed.getD j false) j := fun j hj hu => by
      obtain ⟨e, he, rfl, hb⟩ := hus' i j h1 hj hu o ho
      refine ⟨hpre e he hb, fun i' hi' hu' hw => ?_⟩
      have := huq' i i' e.on h1 hi' hj hw hu hu'
      subst this
      exact h2
    have hwp := hop O _ i o a w h1 ho hS hbw h2 hP (fun j hj hu => ⟨hsl j hj (hlive j hj hu), fun k hk => hOb j k hj (hlive j hj hu).1 hk⟩) (fun j j' k hj hj' hu hu' hne hw => hOd j j' k hj hj' (hlive j hj hu) (hlive j' hj' hu') hne hw)
    refine wpOpIn_mono (fun a' w' h => ?_) hwp
    obtain ⟨v, O', rfl, hS', hvn, hstep, hv⟩ := h
    have hP' := hP.put h1 v
    rw [show (fun j => if i = j then true else listed.getD j false) = (fun j => (listed.setIfInBounds i true).getD j false) from (funext hsetD).symm] at hP'
    -- what is live behind the step was live, and i has not taken it
    have hback : ∀ j, j < ops.size → i ≠ j → lv (fun j => (listed.setIfInBounds i true).getD j false) j → lv (fun j => listed.getD j false) j ∧ (us i j = true → wr j = false) := fun j hj hne hl => by
      obtain ⟨l1, l2⟩ := hl
      have l1' : (listed.setIfInBounds i true).getD j false = true := l1
      rw [hsetD, if_neg hne] at l1'
      refine ⟨⟨l1', fun i' hi' hu hw => ?_⟩, fun hu => ?_⟩
      · have h3 : (listed.setIfInBounds i true).getD i' false = false := l2 i' hi' hu hw
        rw [hsetD] at h3
        split at h3
        · cases h3
        · exact h3
      · rcases hw : wr j with _ | _
        · rfl
        · have h3 : (listed.setIfInBounds i true).getD i false = false := l2 i h1 hu hw
          rw [hsetD, if_pos rfl] at h3
          cases h3
    refine ⟨hcl', hS', Nat.le_trans hbw hstep.size, hP', fun j => if i = j then O' else O j, fun j k hj hl hk => ?_, fun j j' k hj hj' hl hl' hne hw hk hk' => ?_, fun j hj hl => ?_⟩
    · replace hk : (if i = j then O' else O j) k := hk
      by_cases e : i = j
      · rw [if_pos e] at hk
        obtain ⟨h3, h4⟩ := hstep.foot k hk
        refine ⟨?_, h3⟩
        rcases h4 with h4 | ⟨j0, h5, h6, h7, -⟩
        · omega
        · exact (hOb j0 k h5 (hlive j0 h5 h6).1 h7).1
      · rw [if_neg e] at hk
        rw [hsetD, if_neg e] at hl
        have := hOb j k hj hl hk
        exact ⟨this.1, Nat.lt_of_lt_of_le this.2 hstep.size⟩
    · replace hk : (if i = j then O' else O j) k := hk
      replace hk' : (if i = j' then O' else O j') k := hk'
      by_cases e : i = j
      · subst e
        rw [if_pos rfl] at hk
        rw [if_neg hne] at hk'
        obtain ⟨b1, b2⟩ := hback j' hj' hne hl'
        obtain ⟨h3, h4⟩ := hstep.foot k hk
        rcases h4 with h4 | ⟨j0, h5, h6, h7, h8⟩
        · have := (hOb j' k hj' b1.1 hk').2
          omega
        · have hw0 := h8 hw
          by_cases e0 : j0 = j'
          · subst e0
            rw [b2 h6] at hw0; cases hw0
          · exact hOd j0 j' k h5 hj' (hlive j0 h5 h6) b1 e0 hw0 h7 hk'
      · rw [if_neg e] at hk
        obtain ⟨b1, b2⟩ := hback j hj e hl
        by_cases e' : i = j'
        · subst e'
          rw [if_pos rfl] at hk'
          obtain ⟨h3, h4⟩ := hstep.foot k hk'
          rcases h4 with h4 | ⟨j0, h5, h6, h7, -⟩
          · have := (hOb j k hj b1.1 hk).2
            omega
          · by_cases e0 : j = j0
            · subst e0
              rw [b2 h6] at hw; cases hw
            · exact hOd j j0 k hj h5 b1 (hlive j0 h5 h6) e0 hw hk h7
        · rw [if_neg e'] at hk'
          exact hOd j j' k hj hj' b1 (hback j' hj' e' hl').1 hne hw hk hk'
    · show Φ j (slotv (a.put (dm i) v) (dm (tk j))) (if i = j then O' else O j) w'
      by_cases e : i = j
      · subst e
        rw [if_pos rfl]
        have : slotv (a.put (dm i) v) (dm (tk i)) = if dm i = none then slotv a (dm (tk i)) else v := by
          cases hdi : dm i with
          | none => rw [if_pos rfl]; rfl
          | some t =>
            rw [if_neg (by simp)]
            rcases htk i h1 with e2 | ⟨e2, -, -⟩
            · rw [e2, hdi]; exact put_getD_same _ _ _ (by rw [hP.size]; exact hsz i t h1 hdi)
            · rw [hdi] at e2; cases e2
        rw [this]
        exact hv
      · rw [if_neg e]
        obtain ⟨b1, b2⟩ := hback j hj e hl
        have htj : tk j < ops.size ∧ i ≠ tk j := by
          rcases htk j hj with e2 | ⟨-, e2, e3⟩
          · rw [e2]; exact ⟨hj, e⟩
          · refine ⟨e2, fun e4 => ?_⟩
            obtain ⟨ee, he1, he2, he3⟩ := hus' j (tk j) hj e2 e3 ops[j] (Array.getElem?_eq_getElem hj)
            have h3 := hcl j ops[j] (Array.getElem?_eq_getElem hj) b1.1 ee he1 he3
            rw [he2, ← e4, h2] at h3
            cases h3
        have hv' : slotv (a.put (dm i) v) (dm (tk j)) = slotv a (dm (tk j)) := by
          cases hdj : dm (tk j) with
          | none => rfl
          | some t =>
            cases hdi : dm i with
            | none => rfl
            | some t' => exact put_getD_ne _ _ _ _ (fun e' => htj.2 (hdm i (tk j) t h1 htj.1 (by rw [hdi, e']) hdj))
        rw [hv']
        refine hst j _ _ w w' hj (fun k hk => (hOb j k hj b1.1 hk).2) (fun k hk => hstep.keep k (hOb j k hj b1.1 hk).2 fun j0 h5 h6 h7 h8 => ?_) hstep.size hS hS' (hsl j hj b1)
        by_cases e0 : j0 = j
        · subst e0
          rw [b2 h6] at h7; cases h7
        · exact hOd j0 j k h5 hj (hlive j0 h5 h6) b1 e0 h7 h8 hk
  · rintro listed a w hls ⟨hcl, hS, hbw, hP, O, hOb, hOd, hsl⟩ hr
    have hready : ∀ i, i < ops.size → listed.getD i false = true := by
      intro i
      induction i using Nat.strongRecOn with
      | _ i ih =>
        intro hi
        rcases hl : listed.getD i false with _ | _
        · have hmem : i ∈ Region.ready .any ops listed := by
            simp only [Region.ready, List.mem_filter, List.mem_range, Bool.and_eq_true, Bool.not_eq_true']
            refine ⟨hi, by rw [getD_true_false (by omega)]; exact hl, ?_⟩
            rw [Array.getElem?_eq_getElem hi]
            simp only [Option.map_some, Option.getD_some]
            rw [Array.all_eq_true_iff_forall_mem]
            intro e he
            by_cases hb : Region.binds .any e = true
            · have hlt := hlex i _ (Array.getElem?_eq_getElem hi) e (by simpa using he) hb
              simp [ih e.on hlt (by omega)]
            · simp [hb]
          rw [hr] at hmem; cases hmem
        · rfl
    refine hend O _ a w hready hS hbw hP (fun j hj hd => ⟨hsl j hj ⟨hready j hj, fun i hi hu hw => ?_⟩, fun k hk => hOb j k hj (hready j hj) hk⟩)
    rcases hd with hd | hd
    · rw [hd] at hw; cases hw
    · rw [hd i hi] at hu; cases hu
  · simp
  · have : (Array.replicate ops.size false).getD i false = false := by
      simp only [Array.getD_eq_getD_getElem?, Array.getElem?_replicate]; split <;> rfl
    rw [this] at h; cases h
  · have h1 := h.1
    have : (Array.replicate ops.size false).getD j false = false := by
      simp only [Array.getD_eq_getD_getElem?, Array.getElem?_replicate]; split <;> rfl
    have h2 : (Array.replicate ops.size false).getD j false = true := h1
    rw [this] at h2; cases h2
end
end Go.Proofs
namespace Go.Proofs
open Go.RowKit Go.Shelf Go.Proofs.Ct Go.Maps
set_option maxRecDepth 100000 in
theorem eq190_any (w : World) (u v : Value) (q : Nat) (x R : List Int) (hu : IntsAt w u x) (hv : IntsAt w v R) (hq : w.cell? ⟨q, 0, none⟩ = some v) :
    Calls Try.prog 190 #[u, .pointer (some ⟨q, 0, none⟩)] w fun e w' => e = .returned (.bool (decide (x = R))) ∧ Below w.heap.size w w' := by
  have HC := Lib.hid (equal143_any w u v x R hu hv)
  obtain ⟨Au, cu, rfl, -, -, -⟩ := hu.open_
  obtain ⟨Av, cv, rfl, -, -, -⟩ := hv.open_
  clear hu hv
  generalize decide (x = R) = r at *
  go_enter Try.func190, Try.ntmps190
  go_wp2_with (go_at_call 191; (with_reducible refine HC.out.mono ?_); rintro e w1 ⟨rfl, p, rfl⟩)
  go_ret
  exact ⟨rfl, below_drewN (Below.refl _ _) _⟩
theorem call124 (args : Array Value) (w : World) : (callFunc 124 args).run Try.prog w = .ok (.enter 124 args) w := enters_of Try.func124 (by kernel_rfl) rfl args w
theorem call190 (args : Array Value) (w : World) : (callFunc 190 args).run Try.prog w = .ok (.enter 190 args) w := enters_of Try.func190 (by kernel_rfl) rfl args w
theorem bs31_2 (A B : Option Addr) (n m c k : Nat) (w : World) : (Instr.buildSlice 31 2 #[(0, .slice A n c), (1, .slice B m k)]).run Try.prog w = .ok (.slice (some ⟨w.heap.size, 0, none⟩) 2 2) (w.alloc (.cells #[.slice A n c, .slice B m k] 25)) := by kernel_rfl
theorem alloc25 (w : World) : (Instr.alloc 25 true (.tuple #[])).run Try.prog w = .ok (.pointer (some ⟨w.heap.size, 0, none⟩)) (w.alloc (.cells #[.slice none 0 0] 25)) := by kernel_rfl
section
variable {o : Oper} {a : Act} {w : World}
theorem r_bs31_2 (x y : Operand) (A B : Option Addr) (n m c k : Nat) (ho : o.op = .buildSlice 31 2 #[(0, x), (1, y)]) (hx : a.eval x = .slice A n c) (hy : a.eval y = .slice B m k) : (execOp a.eval o).run Try.prog w = .ok (.value (.slice (some ⟨w.heap.size, 0, none⟩) 2 2)) (w.alloc (.cells #[.slice A n c, .slice B m k] 25)) := by
  have hb := bs31_2 A B n m c k w
  unfold execOp
  simp only [ho, List.map_toArray, List.map_cons, List.map_nil, hx, hy, Sem.run_bind, hb, Result.andThen_ok]
  rfl
theorem r_alloc25 (ho : o.op = .alloc 25) : (execOp a.eval o).run Try.prog w = .ok (.value (.pointer (some ⟨w.heap.size, 0, none⟩))) (w.alloc (.cells #[.slice none 0 0] 25)) := by
  have hb := alloc25 w
  unfold execOp
  simp only [ho, Sem.run_bind, hb, Result.andThen_ok]
  rfl
theorem st25 (ad : Addr) (u : Value) (A : Option Addr) (m c : Nat) (hc : w.cell? ad = some u) (hf : w.frozen? ad = false) : (Instr.storeAt 25 (.pointer (some ad)) (.slice A m c)).run Try.prog w = .ok () (w.setCell ad (.slice A m c)) := by
  simp [Instr.storeAt, Instr.sureAddr, go_sem, hc, hf]
theorem r_store25 (x y : Operand) (q : Nat) (u : Value) (A : Option Addr) (m c : Nat) (ho : o.op = .store 25 x y) (hx : a.eval x = .pointer (some ⟨q, 0, none⟩)) (hy : a.eval y = .slice A m c) (hg : w.heap[q]? = some (.cells #[u] 25 (0, 0))) : (execOp a.eval o).run Try.prog w = .ok .skip (w.setCell ⟨q, 0, none⟩ (.slice A m c)) := by
  have hc : w.cell? ⟨q, 0, none⟩ = some u := by rw [cell_of_row _ _ _ _ _ _ hg]; rfl
  have hf : w.frozen? ⟨q, 0, none⟩ = false := by simp [World.frozen?, hg]
  exact r_store1 25 x y ⟨q, 0, none⟩ u _ ho hx hy rfl hc hf (st25 _ u A m c hc hf)
end
theorem tab_two25 {w : World} {X Y : List Int} {A B : Option Addr} {c d : Nat} {F : Nat → Prop} (hx : IntsF F w (.slice A X.length c) X) (hy : IntsF F w (.slice B Y.length d) Y) (hF : ∀ k, F k → k < w.heap.size) :
    TabS (fun k => F k ∨ k = w.heap.size) (w.alloc (.cells #[.slice A X.length c, .slice B Y.length d] 25)) (.slice (some ⟨w.heap.size, 0, none⟩) 2 2) [X, Y] := by
  have hal : Below w.heap.size w (w.alloc (.cells #[.slice A X.length c, .slice B Y.length d] 25)) := (Below.refl _ _).alloc (Nat.le_refl _) _
  refine ⟨[.slice A X.length c, .slice B Y.length d], fun w' ha => ?_, rfl, fun k hk => ?_⟩
  · have h1 := (ha w.heap.size (.inr rfl)).trans (heap_alloc_new w _)
    refine ⟨_, 2, 2, rfl, rfl, Nat.le_refl _, by simp [maxLen], fun _ => ⟨w.heap.size, 0, rfl, fun m u hu => ?_⟩⟩
    rw [cell_of_row _ _ _ _ _ _ h1, Nat.zero_add]
    simpa using hu
  · have : k = 0 ∨ k = 1 := by simp at hk; omega
    rcases this with rfl | rfl
    · exact ⟨_, rfl, (hx.keep fun q hq => hal.block q (hF q hq)).mono fun q hq => .inl hq⟩
    · exact ⟨_, rfl, (hy.keep fun q hq => hal.block q (hF q hq)).mono fun q hq => .inl hq⟩
def BoxS (base : Nat) (R : List Int) (v : Value) (O : Nat → Prop) (W : World) : Prop := ∃ q A c, v = .pointer (some ⟨q, 0, none⟩) ∧ W.heap[q]? = some (.cells #[.slice A R.length c] 25 (0, 0)) ∧ O q ∧ OwnI base W (.slice A R.length c) R ∧ ∀ r, (Value.slice A R.length c).ownBlock = some r → O r
theorem BoxS.keep {base : Nat} {R : List Int} {v : Value} {O : Nat → Prop} {W W' : World} (h : ∀ k, O k → W'.heap[k]? = W.heap[k]?) (hb : BoxS base R v O W) : BoxS base R v O W' := by
  obtain ⟨q, A, c, h1, h2, h3, h4, h5⟩ := hb
  exact ⟨q, A, c, h1, (h q h3).trans h2, h3, owns_keep h4 fun r hr => h r (h5 r hr), h5⟩
theorem keep_tie {t j : Nat} {p : FP} {base : Nat} {R : List Int} {v : Value} {O : Nat → Prop} {W0 w w' : World} (hb : W0.heap.size = base) (h1 : Below base W0 w) (h2 : Below base W0 w') (hs : w.heap.size ≤ w'.heap.size) (h : ∀ k, O k → w'.heap[k]? = w.heap[k]?) :
    (if j = t then BoxS base R v O w else p.holds base v O w) → if j = t then BoxS base R v O w' else p.holds base v O w' := by
  intro hh
  split at hh
  · next e => rw [if_pos e]; exact hh.keep h
  · next e => rw [if_neg e]; exact FP.keep hb h1 h2 hs h hh
theorem flat_two (a b : List Int) : flatTo [a, b] 2 = a ++ b := by simp [flatTo, foldTo]
def midTo (L : List W) (ws : W) (x : Int) (j : Nat) : List W := foldTo (fun j l => rotL l ([ws, Ct.inv ws].getD j []) x) j L
end Go.Proofs
namespace Go.Proofs
open Go.RowKit Go.Shelf Go.Proofs.Ct Go.Maps
theorem wordsTo2_len {rels : List W} (h : ∀ j, (rels.getD j []).length ≤ 100) (x : Int) (k : Nat) : (wordsTo2 rels x k).length ≤ k * 200 := by
  induction k with
  | zero => exact Nat.le_refl _
  | succ k ih =>
    rw [show wordsTo2 rels x (k + 1) = rotL (rotL (wordsTo2 rels x k) (rels.getD k []) x) (Ct.inv (rels.getD k [])) x from rfl]
    have h1 := rotTo_len (rotL (wordsTo2 rels x k) (rels.getD k []) x) (Ct.inv (rels.getD k [])) x (Ct.inv (rels.getD k [])).length
    have h2 := rotTo_len (wordsTo2 rels x k) (rels.getD k []) x (rels.getD k []).length
    have h3 := h k
    rw [length_inv] at h1
    unfold rotL
    rw [length_inv]
    unfold rotL at h1
    omega
end Go.Proofs
namespace Go.Proofs
open Go.RowKit Go.Shelf Go.Proofs.Ct Go.Maps
theorem midTo_len (L : List W) (ws : W) (x : Int) (h : ws.length ≤ 100) : ∀ j, (midTo L ws x j).length ≤ L.length + j * 100
  | 0 => Nat.le_refl _
  | j + 1 => by
    have ih := midTo_len L ws x h j
    have h1 := rotTo_len (midTo L ws x j) ([ws, Ct.inv ws].getD j []) x ([ws, Ct.inv ws].getD j []).length
    have h2 : ([ws, Ct.inv ws].getD j []).length ≤ 100 := by
      match j with
      | 0 => exact h
      | 1 => show (Ct.inv ws).length ≤ 100; rw [length_inv]; exact h
      | j + 2 => exact Nat.zero_le _
    show (rotL (midTo L ws x j) ([ws, Ct.inv ws].getD j []) x).length ≤ _
    unfold rotL
    omega
set_option maxRecDepth 100000 in
set_option maxHeartbeats 4000000 in
theorem words139_any (w : World) (vr : Value) (rels : List W) (g x : Int) (hR : Tab w vr rels) (_hx1 : -9223372036854775808 ≤ x) (_hx2 : x ≤ 9223372036854775807) (hm : ∀ j, ∀ z ∈ rels.getD j [], Mild z) (hlen : ∀ j, (rels.getD j []).length ≤ 100) (hn : rels.length ≤ 200) :
    Calls Try.prog 139 #[.agg #[.int .i64 g, vr], .int .i64 x] w fun e w' => (∃ A c, e = .returned (.slice A (wordsX rels x).length c) ∧ TabB w.heap.size w' (.slice A (wordsX rels x).length c) (wordsX rels x)) ∧ Below w.heap.size w w' := by
  obtain ⟨Ar, cr, rfl⟩ := Tab.form hR
  have HP : Hid (∀ W, W = w.alloc (.cells #[.int .i64 g, .slice Ar rels.length cr] 40) → Below w.heap.size w W ∧ W.heap[w.heap.size]? = some (.cells #[.int .i64 g, .slice Ar rels.length cr] 40 (0, 0)) ∧ W.heap.size = w.heap.size + 1) := Lib.hid fun W h => by
    subst h
    exact ⟨(Below.refl _ _).alloc (Nat.le_refl _) _, heap_alloc_new w _, by simp⟩
  have HRR := Lib.hid hR
  have HM := Lib.hid hm
  have HLEN := Lib.hid hlen
  have hrn0 : (0 : Int) ≤ (rels.length : Int) := Int.natCast_nonneg _
  have hrn1 : (rels.length : Int) ≤ 200 := by omega
  have HW2 : Hid (∀ k, (wordsTo2 rels x k).length ≤ k * 200) := Lib.hid fun k => wordsTo2_len hlen x k
  unfold wordsX
  clear hR hm hlen
  go_enter Try.func139, Try.ntmps139
  go_wp2_with fail
  generalize hw0 : w.alloc (.cells #[.int .i64 g, .slice Ar rels.length cr] 40) = w0 at *
  obtain ⟨hb0, hbx, hsz⟩ := HP.out w0 rfl
  have HB0 := Lib.hid hb0
  have hcr : w0.cell? ⟨w.heap.size, 1, none⟩ = some (.slice Ar rels.length cr) := (cell_of2 hbx).2
  have HT : Hid (Tab w0 (.slice Ar rels.length cr) rels) := Lib.hid (kept_tab.below HRR.out hb0)
  have HSZ := Lib.hid hsz
  clear hw0 hb0 hbx HP hsz
  go_wp2_with fail
  go_loopw [5, 16] (fun vo i wr => ∃ (k : Nat) (A : Option Addr) (c : Nat), i = .int .i64 (k : Int) ∧ k ≤ rels.length ∧ vo = .slice A (wordsTo2 rels x k).length c ∧ Hid (∃ F1, OutSt 25 F1 w0 wr vo (wordsTo2 rels x k))) (fun _ i _ => rels.length - (intOf i).toNat)
  case atStart => exact ⟨0, none, 0, rfl, Nat.zero_le _, rfl, Lib.hid ⟨_, OutSt.nil 25 (Below.refl _ _)⟩⟩
  case round =>
    clear hcr
    obtain ⟨i, A, c, rfl, hi, rfl, HO⟩ := hrel
    have hi0 : (0 : Int) ≤ (i : Int) := Int.natCast_nonneg _
    have hbl : Below w0.heap.size w0 wr := by obtain ⟨F1, h⟩ := HO.out; exact h.below
    by_cases hlt : i < rels.length
    · have hiI : (i : Int) < (rels.length : Int) := by omega
      obtain ⟨bs, os, rfl, hcell0⟩ := HT.out.cells (by omega)
      obtain ⟨u, hu0, hI0⟩ := hcell0 i hlt
      have hu := (hbl.cell (p := ⟨bs, os + i, none⟩) (World.block_lt_of_cell? w0 _ hu0)).trans hu0
      have hIF := IntsF.of_at hI0
      have HWS : Hid (wordsTo2 rels x (i + 1) = midTo (wordsTo2 rels x i) (rels.getD i []) x 2) := Lib.hid rfl
      have HUW : Hid (∀ W, Below w0.heap.size w0 W → IntsAt W u (rels.getD i [])) := Lib.hid fun W h => (hIF.keep (fun q hq => h.block q hq)).at_
      obtain ⟨Au, cu, rfl, -, -, -⟩ := hI0.open_
      have hmk := HM.out i
      have HMK := Lib.hid hmk
      have hlk := HLEN.out i
      have hll := HW2.out i
      have HLL0 : Hid ((wordsTo2 rels x i).length ≤ 40000) := Lib.hid (by omega)
      generalize rels.getD i [] = rel at *
      have HLK := Lib.hid hlk
      have HLI := Lib.hid (length_inv rel)
      have HFI : Hid (Fits rel ∧ Fits (Ct.inv rel)) := Lib.hid ⟨hI0.2, Mild.fits (mild_inv hmk)⟩
      have HIV := Lib.hid (inverse189_any wr _ rel (HUW.out _ hbl) (by omega) hmk)
      have HIF := Lib.hid hIF
      have HBL := Lib.hid hbl
      unfold InvPost at HIV
      clear hcell0 hu0 hI0 hIF hmk hlk hll hbl
      generalize hL : wordsTo2 rels x i = L0 at *
      clear hL
      go_wp2_with (go_at_call 189; (with_reducible refine HIV.out.mono ?_); rintro E w1 ⟨A1, c1, rfl, ho1, hb1⟩; have HO1 := Lib.hid ho1; have HB1 := Lib.hid hb1; clear ho1 hb1)
      obtain ⟨qp, hqp⟩ : ∃ q, q = w1.heap.size := ⟨_, rfl⟩
      have hal := heap_alloc_new w1 (.cells #[.slice Au rel.length cu, .slice A1 rel.length c1] 25)
      have hwb : Below w1.heap.size w1 (w1.alloc (.cells #[.slice Au rel.length cu, .slice A1 rel.length c1] 25)) := (Below.refl _ _).alloc (Nat.le_refl _) _
      have hsz1 : (w1.alloc (.cells #[.slice Au rel.length cu, .slice A1 rel.length c1] 25)).heap.size = w1.heap.size + 1 := by simp
      generalize hwm : w1.alloc (.cells #[.slice Au rel.length cu, .slice A1 rel.length c1] 25) = wm at *
      rw [← hqp] at hal hsz1 ⊢
      have hOM : ∃ F1, OutSt 25 F1 w0 wm (.slice A L0.length c) L0 := by
        obtain ⟨F1, h⟩ := HO.out
        exact ⟨F1, (h.below' HB1.out).below' hwb⟩
      have hvm : ∀ r, (Value.slice A L0.length c).ownBlock = some r → w0.heap.size ≤ r ∧ r < wr.heap.size := fun r hr => by
        obtain ⟨F1, h⟩ := HO.out
        obtain ⟨h1, C, hC⟩ := h.out.block r hr
        exact ⟨h1, (Array.getElem?_eq_some_iff.1 hC).1⟩
      have hPR : ∀ j, j < 2 → ∃ A' c', ∀ W vo, Grw wm W (.slice A L0.length c) vo → W.cell? ⟨qp, j, none⟩ = some (.slice A' rel.length c') ∧ IntsAt W (.slice A' rel.length c') ([rel, Ct.inv rel].getD j []) := by
        intro j hj
        have hs1 := HB1.out.size
        have hqw : ∀ W vo, Grw wm W (.slice A L0.length c) vo → W.heap[qp]? = some (.cells #[.slice Au rel.length cu, .slice A1 rel.length c1] 25 (0, 0)) := fun W vo hW => (hW.2.1 qp (by omega) (fun e => by have := (hvm qp e).2; omega)).trans hal
        match j, hj with
        | 0, _ =>
          refine ⟨Au, cu, fun W vo hW => ⟨by rw [cell_of_row _ _ _ _ _ _ (hqw W vo hW)]; rfl, ?_⟩⟩
          refine (HIF.out.keep (fun q hq => ?_)).at_
          have hq2 := Nat.lt_of_lt_of_le hq HBL.out.size
          exact (hW.2.1 q (by omega) (fun e => by have := (hvm q e).1; omega)).trans ((hwb.block q (by omega)).trans ((HB1.out.block q hq2).trans (HBL.out.block q hq)))
        | 1, _ =>
          refine ⟨A1, c1, fun W vo hW => ⟨by rw [cell_of_row _ _ _ _ _ _ (hqw W vo hW)]; rfl, ?_⟩⟩
          have h1 : OwnI wr.heap.size W (.slice A1 rel.length c1) (Ct.inv rel) := owns_keep HO1.out fun r hr => by
            have hr1 := (owns_block HO1.out r hr).1
            have hr2 := owns_lt HO1.out hr
            exact (hW.2.1 r (by omega) (fun e => by have := (hvm r e).2; omega)).trans (hwb.block r hr2)
          have h2 := OwnI.ints (by rw [← HLI.out] at h1; exact h1) HFI.out.2
          rw [HLI.out] at h2
          exact h2
      have HPR := Lib.hid hPR
      have HOM := Lib.hid hOM
      have HGM : Hid (Grw wm wm (.slice A L0.length c) (.slice A L0.length c)) := Lib.hid (Grw.of_below (Below.refl _ _) _)
      have HLM : Hid (∀ j, j ≤ 2 → (midTo L0 rel x j).length ≤ 50000) := Lib.hid fun j hj => by
        have := midTo_len L0 rel x HLK.out j
        have := HLL0.out
        omega
      clear hal hwb hwm hsz1 hOM hvm hPR hu hqp
      generalize hvm : Value.slice A L0.length c = vm at *
      have HVM := Lib.hid hvm
      clear hvm
      go_wp2_with fail
      go_loopw [5, 25] (fun vo i wr => ∃ (j : Nat) (A : Option Addr) (c : Nat), i = .int .i64 (j : Int) ∧ j ≤ 2 ∧ vo = .slice A (midTo L0 rel x j).length c ∧ Hid (∃ F1, OutSt 25 F1 w0 wr vo (midTo L0 rel x j)) ∧ Hid (Grw wm wr vm vo)) (fun _ i _ => 2 - (intOf i).toNat)
      case atStart => exact ⟨0, A, c, rfl, Nat.zero_le _, HVM.out.symm, HOM, HGM⟩
      case round =>
        clear HOM HGM HIV HO HB1 HO1 HIF HBL
        obtain ⟨j, AM, cM, rfl, hj, rfl, HOM, HGM⟩ := hrel
        have hj0 : (0 : Int) ≤ (j : Int) := Int.natCast_nonneg _
        by_cases hlt2 : j < 2
        · have hjI : (j : Int) < 2 := by omega
          obtain ⟨A', c', hPj⟩ := HPR.out j hlt2
          have hcp := (hPj _ _ HGM.out).1
          have HNM : Hid (midTo L0 rel x (j + 1) = rotL (midTo L0 rel x j) ([rel, Ct.inv rel].getD j []) x) := Lib.hid rfl
          have hwl : ([rel, Ct.inv rel].getD j []).length = rel.length := by
            match j, hlt2 with
            | 0, _ => rfl
            | 1, _ => exact length_inv rel
          have hfw : Fits ([rel, Ct.inv rel].getD j []) := by
            match j, hlt2 with
            | 0, _ => exact HFI.out.1
            | 1, _ => exact HFI.out.2
          have HFW := Lib.hid hfw
          have hLm := HLM.out j hj
          rw [← hwl] at hcp
          have hPj2 : ∀ W vo, Grw wm W vm vo → IntsAt W (.slice A' ([rel, Ct.inv rel].getD j []).length c') ([rel, Ct.inv rel].getD j []) := fun W vo hW => by rw [hwl]; exact (hPj W vo hW).2
          have hwlk : ([rel, Ct.inv rel].getD j []).length ≤ 100 := by rw [hwl]; exact HLK.out
          generalize [rel, Ct.inv rel].getD j [] = ws at *
          generalize hLmm : midTo L0 rel x j = Lm at *
          have HPJ := Lib.hid hPj2
          have HLMM := Lib.hid hLm
          obtain ⟨A99, cwn, e9, hcu, hcm, -⟩ := (hPj2 _ _ HGM.out).open_
          obtain ⟨rfl, -, rfl⟩ := Value.slice.inj e9
          clear hPj hPj2 hwl hfw hLm hLmm e9
          have hws0 : (0 : Int) ≤ (ws.length : Int) := Int.natCast_nonneg _
          have hws1 : (ws.length : Int) ≤ 100 := by omega
          have hwc : (ws.length : Int) ≤ (c' : Int) := by omega
          go_wp2_with fail
          go_loopw [5, 31] (fun vo i wr => ∃ (k : Nat) (A : Option Addr) (c : Nat), i = .int .i64 (k : Int) ∧ k ≤ ws.length ∧ vo = .slice A (rotTo Lm ws x k).length c ∧ Hid (∃ F1, OutSt 25 F1 w0 wr vo (rotTo Lm ws x k)) ∧ Hid (Grw wm wr vm vo)) (fun _ i _ => ws.length - (intOf i).toNat)
          case atStart => exact ⟨0, AM, cM, rfl, Nat.zero_le _, rfl, HOM, HGM⟩
          case round =>
            clear HOM HGM hcp
            obtain ⟨k, AL, cL, rfl, hk, rfl, HOL, HGR⟩ := hrel
            have hk0 : (0 : Int) ≤ (k : Int) := Int.natCast_nonneg _
            by_cases hlt3 : k < ws.length
            · have hkI : (k : Int) < (ws.length : Int) := by omega
              have hLL := rotTo_len Lm ws x k
              have HLL : Hid ((rotTo Lm ws x k).length ≤ 200000) := Lib.hid (by have := HLMM.out; omega)
              have hiw := HPJ.out wr _ HGR.out
              have HSTEP : Hid ((ws.getD k 0 = x ∧ ws.drop k ++ ws.take k ∉ rotTo Lm ws x k → rotTo Lm ws x (k + 1) = rotTo Lm ws x k ++ [ws.drop k ++ ws.take k]) ∧ (¬ (ws.getD k 0 = x ∧ ws.drop k ++ ws.take k ∉ rotTo Lm ws x k) → rotTo Lm ws x (k + 1) = rotTo Lm ws x k)) := Lib.hid ⟨fun h => if_pos h, fun h => if_neg h⟩
              obtain ⟨A9, cu, e', -, -, hcl⟩ := hiw.open_
              obtain ⟨rfl, -, rfl⟩ := Value.slice.inj e'
              obtain ⟨bu, ou, rfl, hcc⟩ := hcl (by omega)
              have hck := hcc k hlt3
              obtain ⟨A1', hv1, hi1⟩ := ints_sliced (k := k) (h := ws.length) hiw (by omega) (Nat.le_refl _)
              obtain ⟨A2, hv2, hi2⟩ := ints_sliced (k := 0) (h := k) hiw (by omega) (by omega)
              rw [List.take_length] at hi1
              rw [List.drop_zero, Nat.sub_zero, Nat.sub_zero] at hi2
              rw [Nat.sub_zero, Nat.sub_zero] at hv2
              rw [show ws.length - k = (ws.drop k).length by rw [List.length_drop]] at hi1 hv1
              rw [show k = (ws.take k).length by rw [List.length_take]; omega] at hi2
              rw [show (ws.take (ws.take k).length) = ws.take k by rw [show (ws.take k).length = k by rw [List.length_take]; omega]] at hi2
              replace hv2 : sliced (some ⟨bu, ou, none⟩) 0 k c' 1 = .slice A2 (ws.take k).length c' := by rw [hv2, show (ws.take k).length = k by rw [List.length_take]; omega]
              have HSL : Hid (∀ W, Below wr.heap.size wr W → IntsAt W (.slice A1' (ws.drop k).length (c' - k)) (ws.drop k) ∧ IntsAt W (.slice A2 (ws.take k).length c') (ws.take k)) := Lib.hid fun W hW => ⟨hi1.below hW, hi2.below hW⟩
              generalize hL : rotTo Lm ws x k = L at *
              clear hL hLL hiw hcl hcc hi1 hi2 e'
              by_cases hkx : ws.getD k 0 = x
              · rw [hkx] at hck
                have HKX := Lib.hid hkx
                clear hkx
                go_wp2_with fail
                refine (wpIn_wide (n := 3)).1 ?_
                refine wpIn_region_tie (by kernel_rfl) 10 rfl (fun i => ([some 39, some 40, some 41, some 42, some 43, some 44, some 45, some 46, some 12, none] : List (Option Nat)).getD i none) (lex_of (by kernel_rfl)) wr.heap.size (fun i => ([8] : List Nat).contains i) (fun i j => (([[], [], [0, 1], [], [], [3, 4], [2, 5], [6], [], [8, 7]] : List (List Nat)).getD i []).contains j) (fun W => Below wr.heap.size wr W) (fun j v O W => if j = 9 then BoxS wr.heap.size (ws.drop k ++ ws.take k) v O W else (([.eq (.slice (some ⟨bu, ou, none⟩) ws.length c'), .eq (.int .i64 (k : Int)), .eq (.slice A1' (ws.drop k).length (c' - k)), .eq (.slice (some ⟨bu, ou, none⟩) ws.length c'), .eq (.int .i64 (k : Int)), .eq (.slice A2 (ws.take k).length c'), .tab [ws.drop k, ws.take k], .own (ws.drop k ++ ws.take k), .box 25 #[.slice none 0 0], .any] : List FP).getD j FP.any).holds wr.heap.size v O W) (fun j => if j = 9 then 8 else j) (by intro j hj; have hj2 : j < 10 := hj; by_cases e : j = 9; (subst e; exact .inr ⟨rfl, by decide, rfl⟩); (exact .inl (if_neg e))) (by kernel_rfl) (by kernel_rfl) (dm_inj (by kernel_rfl)) (fun j v O W W' _ _ h hs h1 h2 => keep_tie rfl h1 h2 hs h) (dm_lt (n := 59) (by kernel_rfl)) (Nat.le_refl _) (Below.refl _ _).drew ?_ ?_
                · intro O ls q o a w2 hq ho hS hbw hls hP hpre hdj
                  have hcases : q = 0 ∨ q = 1 ∨ q = 2 ∨ q = 3 ∨ q = 4 ∨ q = 5 ∨ q = 6 ∨ q = 7 ∨ q = 8 ∨ q = 9 := by
                    have : q < 10 := hq
                    omega
                  rcases hcases with rfl | rfl | rfl | rfl | rfl | rfl | rfl | rfl | rfl | rfl
                  · obtain rfl := Option.some.inj ho
                    exact wpOpIn_of rfl rfl (wpW_val (r_move (.tmp 9) rfl (hP.out 9 (dm_out (by kernel_rfl)))) ⟨_, _, rfl, hS, (fun h => by simp at h), Step.same, rfl⟩)
                  · obtain rfl := Option.some.inj ho
                    exact wpOpIn_of rfl rfl (wpW_val (r_move (.tmp 10) rfl (hP.out 10 (dm_out (by kernel_rfl)))) ⟨_, _, rfl, hS, (fun h => by simp at h), Step.same, rfl⟩)
                  · obtain rfl := Option.some.inj ho
                    exact wpOpIn_of rfl rfl (wpW_val (r_lo25 (.tmp 39) (.tmp 40) (some ⟨bu, ou, none⟩) ws.length c' k rfl (hpre 0 (by decide) rfl).1 (hpre 1 (by decide) rfl).1 (by omega) hv1) ⟨_, _, rfl, hS, (fun h => by simp at h), Step.same, rfl⟩)
                  · obtain rfl := Option.some.inj ho
                    exact wpOpIn_of rfl rfl (wpW_val (r_move (.tmp 9) rfl (hP.out 9 (dm_out (by kernel_rfl)))) ⟨_, _, rfl, hS, (fun h => by simp at h), Step.same, rfl⟩)
                  · obtain rfl := Option.some.inj ho
                    exact wpOpIn_of rfl rfl (wpW_val (r_move (.tmp 10) rfl (hP.out 10 (dm_out (by kernel_rfl)))) ⟨_, _, rfl, hS, (fun h => by simp at h), Step.same, rfl⟩)
                  · obtain rfl := Option.some.inj ho
                    exact wpOpIn_of rfl rfl (wpW_val (r_hi25 (.tmp 42) (.tmp 43) (some ⟨bu, ou, none⟩) ws.length c' k rfl (hpre 3 (by decide) rfl).1 (hpre 4 (by decide) rfl).1 (by omega) hv2) ⟨_, _, rfl, hS, (fun h => by simp at h), Step.same, rfl⟩)
                  · obtain rfl := Option.some.inj ho
                    have hal : Below w2.heap.size w2 (w2.alloc (.cells #[.slice A1' (ws.drop k).length (c' - k), .slice A2 (ws.take k).length c'] 25)) := (Below.refl _ _).alloc (Nat.le_refl _) _
                    have h1 := (IntsF.of_at (HSL.out _ (Below.refl _ _)).1).keep (w' := w2) (fun q hq => hS.block q hq)
                    have h2 := (IntsF.of_at (HSL.out _ (Below.refl _ _)).2).keep (w' := w2) (fun q hq => hS.block q hq)
                    exact wpOpIn_of rfl rfl (wpW_val (r_bs31_2 (.tmp 41) (.tmp 44) A1' A2 _ _ _ _ rfl (hpre 2 (by decide) rfl).1 (hpre 5 (by decide) rfl).1) ⟨_, _, rfl, hS.trans (hal.mono hS.size), (fun h => by simp at h), Step.below hal, ⟨_, _, rfl, (tab_two25 h1 h2 (fun q hq => Nat.lt_of_lt_of_le hq hbw)).mono fun q hq => hq.elim .inl fun e => .inr (Mx.fresh (Nat.le_of_eq e.symm) (by rw [e]; simp))⟩⟩)
                  · obtain rfl := Option.some.inj ho
                    obtain ⟨A6, c6, e6, k6⟩ := (hpre 6 (by decide) rfl).1
                    exact wpOpIn_of rfl rfl (wpW_call (R := fun v w' => (∃ A c, v = .slice A (ws.drop k ++ ws.take k).length c ∧ OwnI w2.heap.size w' (.slice A (ws.drop k ++ ws.take k).length c) (ws.drop k ++ ws.take k)) ∧ Below w2.heap.size w2 w') (r_call1 (.tmp 45) _ _ rfl e6 call124) ((concat100_any w2 _ [ws.drop k, ws.take k] k6.tab (by show sumTo [ws.drop k, ws.take k] 2 ≤ 1000000; rw [← flatTo_length, flat_two, List.length_append, List.length_drop, List.length_take]; omega)).mono fun e w' h => by
                      obtain ⟨A, c, he, ho, hb⟩ := h
                      rw [show [ws.drop k, ws.take k].length = 2 from rfl, flat_two] at he ho
                      exact ⟨_, he, ⟨A, c, rfl, ho⟩, hb⟩)
                      (fun v w'' ⟨⟨A, c, hv, ho⟩, hb⟩ => ⟨v, _, rfl, hS.trans (hb.mono hS.size), (fun h => by simp at h), Step.below hb, ⟨A, c, hv, owns_base ho hS.size, fun r hr => Mx.fresh (owns_block ho r hr).1 (owns_lt ho hr)⟩⟩))
                  · obtain rfl := Option.some.inj ho
                    have hal : Below w2.heap.size w2 (w2.alloc (.cells #[.slice none 0 0] 25)) := (Below.refl _ _).alloc (Nat.le_refl _) _
                    exact wpOpIn_of rfl rfl (wpW_val (r_alloc25 rfl) ⟨_, _, rfl, hS.trans (hal.mono hS.size), (fun h => by simp at h), Step.below hal, ⟨w2.heap.size, rfl, Mx.fresh (Nat.le_refl _) (by simp), heap_alloc_new w2 _⟩⟩)
                  · obtain rfl := Option.some.inj ho
                    obtain ⟨⟨q8, e8, o8, h8⟩, b8⟩ := hpre 8 (by decide) rfl
                    obtain ⟨⟨A7, c7, e7, h7, o7⟩, b7⟩ := hpre 7 (by decide) rfl
                    have hdis : ∀ r, (Value.slice A7 (ws.drop k ++ ws.take k).length c7).ownBlock = some r → r ≠ q8 := fun r hr e => hdj 8 7 q8 (by decide) (by decide) rfl rfl (by decide) rfl o8 (e ▸ o7 r hr)
                    have hgr := grown_setCell w2 q8 0 (.slice A7 (ws.drop k ++ ws.take k).length c7)
                    have hq8 := b8 q8 o8
                    exact wpOpIn_of rfl rfl (wpW_skip (r_store25 (.tmp 12) (.tmp 46) q8 _ _ _ _ rfl e8 e7 h8) ⟨undef, _, rfl, grown_below rfl hS hgr (fun r hr => Option.some.inj hr ▸ hq8.1), (fun _ => rfl), Step.grown hgr (fun r hr => ⟨8, by decide, rfl, rfl, Option.some.inj hr ▸ o8⟩), (show BoxS wr.heap.size (ws.drop k ++ ws.take k) (slotv a (some 12)) _ _ from ⟨q8, A7, c7, e8, by rw [World.setCell]; simp [Array.getElem?_modify, h8], Mx.of (j := 8) (by decide) rfl (by decide) o8 (Nat.lt_of_lt_of_le hq8.2 hgr.size), owns_keep h7 (fun r hr => hgr.block r (owns_lt h7 hr) (fun e => hdis r hr (Option.some.inj e.symm ▸ rfl))), fun r hr => Mx.of (j := 7) (by decide) rfl (by decide) (o7 r hr) (Nat.lt_of_lt_of_le (b7 r (o7 r hr)).2 hgr.size)⟩)⟩)
                · intro O ls a w2 hall hS hbw hP hsl
                  obtain ⟨vs, hvs, hfr⟩ := hP.frame 59 rfl
                  obtain ⟨qb, A8, c8, e8', hbx, -, o8, -⟩ : BoxS wr.heap.size (ws.drop k ++ ws.take k) (a.tmps.getD 12 undef) (O 9) w2 := (hsl 9 (by decide) (.inl rfl)).1
                  have e8 : a.tmps.getD 12 undef = .pointer (some ⟨qb, 0, none⟩) := e8'
                  rw [← hvs] at e8
                  have HS5 := Lib.hid hS
                  have HBX := Lib.hid hbx
                  clear hsl hP hall hS hvs hbw e8' HSL hv1 hv2 hbx
                  subst hfr
                  dsimp only
                  simp only [List.range, List.range.loop, List.map_cons, List.map_nil, List.any_cons, List.any_nil, Nat.reduceBEq, Option.some_beq_some, Option.none_beq_some, Bool.or_false, Bool.false_or, Bool.false_eq_true, if_true, if_false, List.getD_cons_zero, List.getD_cons_succ, e8]
                  have HO5 := Lib.hid o8
                  clear o8 e8
                  have hrl : (ws.drop k ++ ws.take k).length = ws.length := by rw [List.length_append, List.length_drop, List.length_take]; omega
                  have HFR : Hid (Fits (ws.drop k ++ ws.take k)) := Lib.hid fun z hz => HFW.out z (by
                    rcases List.mem_append.1 hz with h | h
                    · exact List.mem_of_mem_drop h
                    · exact List.mem_of_mem_take h)
                  generalize hR : ws.drop k ++ ws.take k = R at *
                  have HRE := Lib.hid hR
                  clear hR
                  rw [hrl] at HO5 HBX
                  have HRL := Lib.hid hrl
                  clear hrl
                  have hcb : ∀ W, Below w2.heap.size w2 W → W.cell? ⟨qb, 0, none⟩ = some (.slice A8 ws.length c8) := fun W hW => by
                    have h1 : w2.cell? ⟨qb, 0, none⟩ = some (.slice A8 ws.length c8) := by rw [cell_of_row _ _ _ _ _ _ HBX.out]; rfl
                    exact (hW.cell (p := ⟨qb, 0, none⟩) (World.block_lt_of_cell? w2 _ h1)).trans h1
                  have HCB := Lib.hid hcb
                  have hT2 : Tab w2 (.slice AL L.length cL) L := by
                    obtain ⟨F1, h1⟩ := HOL.out
                    exact (h1.below' HS5.out).out.tab
                  have hiR : IntsAt w2 (.slice A8 ws.length c8) R := by
                    have h := HO5.out
                    rw [← HRL.out] at h
                    have h2 := OwnI.ints h HFR.out
                    rwa [HRL.out] at h2
                  have hany : L.any (fun v => decide (v = R)) = decide (R ∈ L) := by rw [Bool.eq_iff_iff]; simp
                  have hHAS := has81_any 190 #[.pointer (some ⟨qb, 0, none⟩)] (fun v => decide (v = R)) w2 call190 (.slice AL L.length cL) L hT2 (fun W u j hW hj hI => eq190_any W u _ qb _ R hI (hiR.below hW) (hcb W hW))
                  rw [hany] at hHAS
                  have HAS := Lib.hid hHAS
                  clear hcb hT2 hiR hany hHAS
                  cases hin : decide (R ∈ L) with
                  | true =>
                    have HNX : Hid (rotTo Lm ws x (k + 1) = L) := Lib.hid (HSTEP.out.2 (fun h => h.2 (of_decide_eq_true hin)))
                    rw [hin] at HAS
                    clear hin
                    go_wp2_with (go_at_call 105; (with_reducible refine HAS.out.mono ?_); rintro E w3 ⟨rfl, hb3⟩; have HB3 := Lib.hid hb3; clear hb3)
                    go_roundw
                    case rel => exact ⟨k + 1, AL, cL, by go_num, by omega, by rw [HNX.out], Lib.hid (by rw [HNX.out]; obtain ⟨F1, h⟩ := HOL.out; exact ⟨F1, (h.below' HS5.out).below' HB3.out⟩), Lib.hid (HGR.out.trans ((Grw.of_below HS5.out _).trans (Grw.of_below HB3.out _)))⟩
                    case measure => simp [intOf]; omega
                  | false =>
                    have HNX : Hid (rotTo Lm ws x (k + 1) = L ++ [R]) := Lib.hid (HSTEP.out.1 ⟨HKX.out, of_decide_eq_false hin⟩)
                    rw [hin] at HAS
                    clear hin
                    go_wp2_with (first
                      | (go_at_call 105; (with_reducible refine HAS.out.mono ?_); rintro E w3 ⟨rfl, hb3⟩
                         have hcq := HCB.out _ hb3
                         have hDN : ∃ A' c' w', (Builtin.append_ #[31, 31] 31 #[.slice AL L.length cL, .slice (some ⟨w3.heap.size, 0, none⟩) 1 1]).run Try.prog (w3.alloc (.cells #[.slice A8 ws.length c8] 25)) = .ok (.slice A' (L.length + 1) c') w' ∧ (∃ F1, OutSt 25 F1 w0 w' (.slice A' (L.length + 1) c') (L ++ [R])) ∧ Grw wm w' vm (.slice A' (L.length + 1) c') := by
                           obtain ⟨F1, h⟩ := HOL.out
                           have h9 := (h.with_row HS5.out HO5.out).below' hb3
                           obtain ⟨A', c', w', hr, h1, h2⟩ := h9.done2 (t := 31) (by decide) Try.underlying31 info25p HFR.out (by have := HLL.out; omega)
                           exact ⟨A', c', w', hr, ⟨_, h1⟩, HGR.out.trans ((Grw.of_below HS5.out _).trans ((Grw.of_below hb3 _).trans h2))⟩
                         obtain ⟨A', c', w', hr, h1, h2⟩ := hDN
                         have HR := Lib.hid hr
                         have H1 := Lib.hid h1
                         have H2 := Lib.hid h2
                         clear hr h1 h2 hb3)
                      | ((with_reducible refine wpList_sel 54 ?_); refine wpList_val rfl (r_app (.tmp 51) (.tmp 53) 31 rfl rfl rfl HR.out) ?_))
                    go_roundw
                    case rel => exact ⟨k + 1, A', c', by go_num, by omega, by rw [HNX.out, List.length_append]; rfl, Lib.hid (by rw [HNX.out]; exact H1.out), H2⟩
                    case measure => simp [intOf]; omega
              · have HNX : Hid (rotTo Lm ws x (k + 1) = L) := Lib.hid (HSTEP.out.2 (fun h => hkx h.1))
                generalize ws.getD k 0 = z at *
                have d1 : (z == x) = false := by rw [beq_eq_false_iff_ne]; exact hkx
                clear hv1 hv2
                go_wp2_with fail
                go_roundw
                case rel => exact ⟨k + 1, AL, cL, by go_num, by omega, by rw [HNX.out], Lib.hid (by rw [HNX.out]; exact HOL.out), HGR⟩
                case measure => simp [intOf]; omega
            · obtain rfl : k = ws.length := by omega
              go_wp2_with fail
              go_roundw
              case rel => exact ⟨j + 1, AL, cL, by go_num, by omega, by rw [HNM.out]; rfl, Lib.hid (by rw [HNM.out]; exact HOL.out), HGR⟩
              case measure => simp [intOf]; omega
        · obtain rfl : j = 2 := by omega
          go_wp2_with fail
          go_roundw
          case rel => exact ⟨i + 1, AM, cM, by go_num, by omega, by rw [HWS.out], Lib.hid (by rw [HWS.out]; exact HOM.out)⟩
          case measure => simp [intOf]; omega
    · obtain rfl : i = rels.length := by omega
      have HLE : ∃ L, L = wordsTo2 rels x rels.length := ⟨_, rfl⟩
      obtain ⟨L, hL⟩ := HLE
      have HL := Lib.hid hL
      rw [← hL] at HO ⊢
      clear hL hlt hi hbl
      go_wp2_with fail
      go_ret
      obtain ⟨F1, h⟩ := HO.out
      rw [← HL.out]
      exact ⟨⟨_, _, rfl, h.tabB.mono HB0.out.size⟩, HB0.out.trans (h.below.mono HB0.out.size)⟩
end Go.Proofs
namespace Go.Proofs
open Go.RowKit Go.Shelf Go.Proofs.Ct Go.Maps
def wordsE (g : Int) (rels : List W) (x : Int) : List W × Int := if presE g rels ≠ 0 then ([], presE g rels) else if x = 0 ∨ x < -g ∨ g < x then ([], 2) else (wordsX rels x, 0)
def WordsEPost (g : Int) (rels : List W) (x : Int) (w : World) (e : Ending) (w' : World) : Prop :=
  (∃ A c, e = .returned (.tuple #[.slice A (wordsE g rels x).1.length c, .int .i64 (wordsE g rels x).2]) ∧ TabB w.heap.size w' (.slice A (wordsE g rels x).1.length c) (wordsE g rels x).1) ∧ Below w.heap.size w w'
theorem mild_of_lets {g : Nat} {ws : W} (hg : g ≤ 16) (h : LetsOk g ws) : ∀ z ∈ ws, Mild z := fun z hz => by
  have := h z hz
  unfold Mild
  omega
theorem mild_rels {g : Nat} {rels : List W} (hg : g ≤ 16) (h : ∀ j, j < rels.length → LetsOk g (rels.getD j []) ∧ (rels.getD j []).length ≤ 4000) : ∀ j, ∀ z ∈ rels.getD j [], Mild z := fun j z hz => by
  rcases Nat.lt_or_ge j rels.length with hj | hj
  · exact mild_of_lets hg (h j hj).1 z hz
  · rw [List.getD_eq_getElem?_getD, List.getElem?_eq_none hj] at hz; cases hz
end Go.Proofs
namespace Go.Proofs.Ct
structure Fine (g : Nat) (f : FS) : Prop where
  g1 : 1 ≤ g
  g16 : g ≤ 16
  rest : FRest g f
  n : f.s.t.length ≤ 1000
  pot : pot (2 * g) f ≤ 100000000 * f.s.t.length
theorem Fine.k {g : Nat} {f : FS} (h : Fine g f) : f.k.length + f.s.t.length * (2 * g) ≤ 1000000000000 := by
  have h1 := h.pot
  have h2 := h.n
  have h3 : f.s.t.length * (2 * g) ≤ 1000 * 32 := Nat.mul_le_mul h2 (by have := h.g16; omega)
  unfold Ct.pot at h1
  omega
theorem Fine.ext {g : Nat} {f f' : FS} (h : Fine g f) (k : FExt g f f') : Fine g f' := ⟨h.g1, h.g16, k.rest, by rw [k.n]; exact h.n, by rw [k.n]; exact Nat.le_trans k.less h.pot⟩
theorem Fine.pop {g : Nat} {f : FS} (h : Fine g f) : Fine g f.pop := ⟨h.g1, h.g16, pop_F h.rest, h.n, Nat.le_trans pop_less h.pot⟩
theorem Fine.defn {g : Nat} {f : FS} (h : Fine g f) {r c : Nat} (hF : FRest g (defF (2 * g) f r c)) (hn : f.s.t.length < 1000) : Fine g (defF (2 * g) f r c) := by
  have hl : (defF (2 * g) f r c).s.t.length = f.s.t.length + 1 := length_def (2 * g) r c
  refine ⟨h.g1, h.g16, hF, by omega, ?_⟩
  have h1 := h.pot
  have hlv : (defF (2 * g) f r c).s.live ≤ (f.s.t.length : Int) + 1 := by
    have h2 := hF.rest.lv
    omega
  have hk : (defF (2 * g) f r c).k.length = f.k.length + 1 := by show (f.k ++ [(r, c)]).length = _; simp
  have hu : undT (defF (2 * g) f r c).s.t ≤ (f.s.t.length + 1) * (2 * g) := by
    rw [← hl]
    exact und_le fun r hr => hF.rest.inv.len r hr
  have h3 : (f.s.t.length + 1) * (2 * g) ≤ 1000 * 32 := Nat.mul_le_mul (by omega) (by have := h.g16; omega)
  have h4 : f.k.length ≤ Ct.pot (2 * g) f := by unfold Ct.pot; omega
  have h5 : (defF (2 * g) f r c).s.live.toNat * (3 * ((f.s.t.length + 1) * (2 * g)) + 1) ≤ 1000 * 96001 := Nat.mul_le_mul (by omega) (by omega)
  unfold Ct.pot at h1 h4 ⊢
  rw [hl, hk]
  omega
theorem scansTo_stop {m r : Nat} {ws : List W} {f : FS} {k : Nat} (h : (scansTo m r ws k f).s.rp r ≠ r) : ∀ j, k ≤ j → scansTo m r ws j f = scansTo m r ws k f
  | 0, hj => by obtain rfl : k = 0 := by omega
                rfl
  | j + 1, hj => by
    rcases Nat.lt_or_ge j k with h' | h'
    · obtain rfl : k = j + 1 := by omega
      rfl
    · have ih := scansTo_stop h j h'
      have e : scansTo m r ws (j + 1) f = (fun i f => if f.s.rp r = r then (scanF m f r (ws.getD i [])).1 else f) j (scansTo m r ws j f) := rfl
      rw [e, ih]
      exact if_neg h
theorem scansTo_succ {m r : Nat} {ws : List W} {f : FS} {k : Nat} (h : (scansTo m r ws k f).s.rp r = r) : scansTo m r ws (k + 1) f = (scanF m (scansTo m r ws k f) r (ws.getD k [])).1 := by
  have e : scansTo m r ws (k + 1) f = (fun i f => if f.s.rp r = r then (scanF m f r (ws.getD i [])).1 else f) k (scansTo m r ws k f) := rfl
  rw [e]
  exact if_pos h
theorem scansTo_ext {g : Nat} {ws : List W} {f : FS} (hw : ∀ j, j < ws.length → LOk g (ws.getD j [])) (h : FRest g f) {r : Nat} (hr : r < f.s.t.length) {n : Nat} (hn : n ≤ ws.length) : FExt g f (scansTo (2 * g) r ws n f) := by
  obtain ⟨i1, i2, i3, i4, i5⟩ := scansTo_F hw h hr n hn
  exact ⟨i1, i2, i3, i4, i5⟩
end Go.Proofs.Ct
namespace Go.Proofs
open Go.RowKit Go.Shelf Go.Proofs.Ct Go.Maps
set_option maxRecDepth 100000 in
set_option maxHeartbeats 4000000 in
theorem scans147_any (K : Nat → Prop) (T : TypeId) (ex : List Value) (bl cs : Nat → Nat) (g m base b lim r : Nat) (hm : m = 2 * g) (w : World) (f : FS) (v : Value) (ws : List W) (hT : TyF T) (hR : Fine g f) (hS : StFB K T ex bl cs base b m lim w f) (hbw : base ≤ w.heap.size)
    (hv : ∀ W, Keeps base K w W → Tab W v ws) (hl : ∀ j, j < ws.length → LOk g (ws.getD j [])) (hwl : ∀ j, (ws.getD j []).length ≤ 1000000) (hr : r < f.s.t.length) :
    Calls Try.prog 147 #[.pointer (some ⟨b, 0, none⟩), .int .i64 (r : Int), v] w fun e w' => e = .returned (.tuple #[]) ∧ StFB K T ex bl cs base b m lim w' (scansF m f r ws) ∧ Keeps base K w w' := by
  obtain ⟨A, c, rfl⟩ := Tab.form (hv w (Keeps.refl _ _ _))
  have HT := Lib.hid hT
  have HV : Hid (∀ W, Keeps base K w W → ∀ k, k < ws.length → ∃ bg og u, A = some ⟨bg, og, none⟩ ∧ W.cell? ⟨bg, og + k, none⟩ = some u ∧ IntsAt W u (ws.getD k [])) := Lib.hid fun W h k hk => by
    obtain ⟨A', c', e, -, -, hcc⟩ := LAt.open_ (hv W h)
    obtain ⟨rfl, -, rfl⟩ := Value.slice.inj e
    obtain ⟨bg, og, rfl, hrow⟩ := hcc (by omega)
    obtain ⟨u, hu, hiu⟩ := hrow k hk
    exact ⟨bg, og, u, rfl, hu, hiu⟩
  have hws : (ws.length : Int) ≤ 9223372036854775807 := by
    obtain ⟨A', c', e, h1, h2, -⟩ := LAt.open_ (hv w (Keeps.refl _ _ _))
    obtain ⟨-, -, rfl⟩ := Value.slice.inj e
    omega
  have HX : Hid (∀ k, k ≤ ws.length → Fine g (scansTo m r ws k f) ∧ (scansTo m r ws k f).s.t.length = f.s.t.length) := Lib.hid fun k hk => by
    have h := scansTo_ext hl hR.rest hr hk
    rw [hm]
    exact ⟨hR.ext h, h.n⟩
  have HL := Lib.hid hl
  have HWL := Lib.hid hwl
  have HBW := Lib.hid hbw
  have HM := Lib.hid hm
  have HS0 : Hid (StFB K T ex bl cs base b m lim w (scansTo m r ws 0 f)) := Lib.hid hS
  have hws0 : (0 : Int) ≤ (ws.length : Int) := Int.natCast_nonneg _
  have HSF : Hid (scansF m f r ws = scansTo m r ws ws.length f) := Lib.hid rfl
  clear hS hv hl hwl hbw hT hR hm
  generalize scansF m f r ws = se at *
  go_enter Try.func147, Try.ntmps147
  go_wp2_with fail
  go_loopw [10] (fun i wr => ∃ k : Nat, i = .int .i64 (k : Int) ∧ k ≤ ws.length ∧ Hid (StFB K T ex bl cs base b m lim wr (scansTo m r ws k f)) ∧ Hid (Keeps base K w wr)) (fun i _ => ws.length - (intOf i).toNat)
  case atStart => exact ⟨0, rfl, Nat.zero_le _, HS0, Lib.hid (Keeps.refl _ _ _)⟩
  case round =>
    clear HS0
    obtain ⟨k, rfl, hk, HS, HB⟩ := hrel
    have hk0 : (0 : Int) ≤ (k : Int) := Int.natCast_nonneg _
    by_cases hlt : k < ws.length
    · have hlt' : (k : Int) < (ws.length : Int) := by omega
      obtain ⟨hF, hn⟩ := HX.out k hk
      have hr' : r < (scansTo m r ws k f).s.t.length := by omega
      obtain ⟨bg, og, u, rfl, hu, hiu⟩ := HV.out wr HB.out k hlt
      obtain ⟨Au, cu, rfl, -, -, -⟩ := hiu.open_
      have HIU := Lib.hid hiu
      have HAL := Lib.hid (alive198_any K T ex bl cs base b m lim r wr _ HS.out hr')
      clear hiu
      by_cases hal : (scansTo m r ws k f).s.rp r = r
      · rw [decide_eq_true hal] at HAL
        have HN := Lib.hid (scansTo_succ hal)
        have hkk : (scansTo m r ws k f).k.length + (scansTo m r ws k f).s.t.length * m ≤ 1000000000000 := by
          have h := hF.k
          rw [← HM.out] at h
          exact h
        have HSC : Hid (Calls Try.prog 196 #[.pointer (some ⟨b, 0, none⟩), .int .i64 (r : Int), .slice Au (ws.getD k []).length cu] wr fun e w' => e = .returned (openV (scanF m (scansTo m r ws k f) r (ws.getD k [])).2) ∧ StFB K T ex bl cs base b m lim w' (scansTo m r ws (k + 1) f) ∧ Keeps base K wr w') := Lib.hid (by
          rw [HN.out]
          exact scan196_any K T ex bl cs g m base b lim r HM.out hF.g1 hF.g16 wr (scansTo m r ws k f) (.slice Au (ws.getD k []).length cu) (ws.getD k []) HT.out hF.rest.rest HS.out (Nat.le_trans HBW.out HB.out.size) (by have := hF.n; omega) HIU.out (HL.out k hlt) (HWL.out k) hr' hkk)
        generalize openV (scanF m (scansTo m r ws k f) r (ws.getD k [])).2 = ov at *
        clear hal hF hn HN hkk HIU
        generalize ws.getD k [] = row at *
        go_wp2_with fail
        refine HAL.out.mono ?_
        rintro e w1 ⟨rfl, rfl⟩
        go_wp2_with fail
        refine HSC.out.mono ?_
        rintro e w2 ⟨rfl, hs, hb⟩
        have HS2 := Lib.hid hs
        have HB2 := Lib.hid (HB.out.trans hb)
        clear hs hb
        go_wp2_with fail
        go_roundw
        case rel => exact ⟨k + 1, by go_num, by omega, HS2, HB2⟩
        case measure => simp [intOf]; omega
      · rw [decide_eq_false hal] at HAL
        have HE : Hid (se = scansTo m r ws k f) := Lib.hid (by rw [HSF.out]; exact scansTo_stop hal _ hk)
        clear hal hF hn HIU
        generalize ws.getD k [] = row at *
        go_wp2_with fail
        refine HAL.out.mono ?_
        rintro e w1 ⟨rfl, rfl⟩
        go_wp2_with fail
        try simp only [Exit.inBlock, Exit.then]
        refine bodyPost_ret (results_none rfl _ _ _) rfl ?_
        exact ⟨rfl, by rw [HE.out]; exact HS.out, HB.out⟩
    · obtain rfl : k = ws.length := by omega
      go_wp2_with fail
      go_end0
      exact ⟨rfl, by rw [HSF.out]; exact HS.out, HB.out⟩
end Go.Proofs
namespace Go.Proofs
open Go.RowKit Go.Shelf Go.Proofs.Ct Go.Maps
def rowsG (b : Nat) (w : World) : Nat := match w.cell? ⟨b, 0, none⟩ with
  | some (.slice _ n _) => n
  | _ => 0
end Go.Proofs
