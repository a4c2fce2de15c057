/- words and given of chapter 21 (out of L9 and Le); A region that draws its order: what its slots hold lies in blocks of their own (footprints); some are written again by the operation that takes them; What the slots of a drawn region hold, each in blocks of its own (for the law of T2); A greater limit changes nothing; Ways of words; what was scanned is closed; What an enumeration ends with, plainly: relators are closed everywhere, the subgroup's words at 0; the table of the living. -/
import Derived.Test.YtmpnengjboabcaaGreatRgCS24
import Derived.Test.YtmpnengjboabcaaGreatRgCS14
import Derived.Test.YtmpnengjboabcaaGreatRgCS3
import Derived.Test.YtmpnengjboabcaaGreatRgCS23
import Derived.Test.YtmpnengjboabcaaGreatRgCS2
namespace Go.Proofs
open Go.RowKit Go.Shelf Go.Proofs.Ct Go.Maps
set_option maxRecDepth 100000 in
set_option maxHeartbeats 1000000 in
theorem words98_any (w : World) (v : Value) (l : List Int) (g : Nat) (h : IntsAt w v l) (hg : 1 ≤ g ∧ g ≤ 400) (hl : l.length ≤ 100000) : Calls Tryz.prog 22 #[v, .int .i64 (g : Int)] w (LawWordsPost (lawWords g 4 l) w) := by
  have HC : Hid (Calls Tryz.prog 46 #[v, .int .i64 (g : Int), .int .i64 12] w (WordsPost (wordsOf g 12 l) w)) := Lib.hid (wordsOf111_any w v l g 12 h hg (by omega) hl)
  have hwl := wordsTo_length g 12 l.length l
  have hwl2 : (wordsOf g 12 l).length ≤ 100000 := Nat.le_trans hwl hl
  obtain ⟨A, c, rfl, h1, h2, -⟩ := h.open_
  clear h hwl
  unfold LawWordsPost lawWords
  unfold WordsPost at HC
  generalize wordsOf g 12 l = X at *
  have hxl : (X.length : Int) ≤ 100000 := by omega
  have hx0 : (0 : Int) ≤ (X.length : Int) := Int.natCast_nonneg _
  obtain ⟨n, hn⟩ : ∃ n, n = min X.length 4 := ⟨_, rfl⟩
  have hnx : n ≤ X.length := by omega
  have HN : Hid ((n : Int) = min (X.length : Int) 4) := Lib.hid (by omega)
  have HT : Hid ((X.take 4) = X.take n ∧ (X.take n).length = n) := Lib.hid (by
    rw [List.length_take]
    refine ⟨?_, by omega⟩
    rcases Nat.lt_or_ge X.length 4 with h | h
    · rw [List.take_of_length_le (by omega), List.take_of_length_le (by omega)]
    · rw [show n = 4 by omega])
  rw [HT.out.1]
  clear hn
  go_enter Tryz.func22, Tryz.ntmps22
  go_wp2_with (first
    | (go_at_call 46; (refine HC.out.mono ?_); rintro e w2 ⟨⟨A5, c5, rfl, ht⟩, hb⟩
       obtain ⟨A6, hs6, ht6⟩ := tabB_sliced ht hnx
       obtain ⟨A7, c7, e7, hc7, -, -⟩ := LAt.open_ ht.at_
       obtain ⟨rfl, -, rfl⟩ := Value.slice.inj e7
       have HE : Hid ((∃ A c, Ending.returned (.slice A6 n c5) = .returned (.slice A (X.take n).length c) ∧ TabB w.heap.size w2 (.slice A (X.take n).length c) (X.take n)) ∧ Below w.heap.size w w2) := Lib.hid ⟨⟨A6, c5, by rw [HT.out.2], by rw [HT.out.2]; exact ht6⟩, hb⟩
       clear ht hb ht6 e7)
    | ((with_reducible refine wpList_sel 12 ?_); refine wpList_val rfl (r_min2 (.tmp 11) (.const (.int .i64 4)) _ _ (n : Int) rfl rfl rfl (by have := HN.out; omega)) ?_)
    | ((with_reducible refine wpList_sel 13 ?_); refine wpList_val rfl (r_slice_hi31 (.tmp 9) (.tmp 12) _ X.length c5 n rfl rfl rfl (by omega)) ?_; rw [hs6]))
  go_ret
  exact HE.out
set_option maxRecDepth 100000 in
set_option maxHeartbeats 1000000 in
theorem given37_any (w : World) (which : Int) (v : Value) (l : List Int) (h : IntsAt w v l) (hl : l.length ≤ 100000) (hw : -9223372036854775808 ≤ which ∧ which ≤ 9223372036854775807) : Calls Tryz.prog 6 #[.int .i64 which, v] w (GivenPost (givenP 4 which l) w) := by
  have h1 : which.tmod 2 < 2 := Int.tmod_lt_of_pos _ (by omega)
  have h2 : -2 < which.tmod 2 := Int.lt_tmod_of_pos _ (by omega)
  have hd : which.tdiv 2 * 2 + which.tmod 2 = which := Int.tdiv_mul_add_tmod _ _
  obtain ⟨hw1, hw2⟩ := hw
  have hd1 : -9223372036854775808 ≤ which.tdiv 2 := by omega
  have hd2 : which.tdiv 2 ≤ 9223372036854775807 := by omega
  have HI := Lib.hid h
  obtain ⟨A, c, rfl, hc1, hc2, -⟩ := h.open_
  have hb0 : Below w.heap.size w (w.alloc (.cells zero40 26)) := (Below.refl _ _).alloc (Nat.le_refl _) _
  have HB0 := Lib.hid hb0
  have HG0 := Lib.hid (heap_alloc_new w (.cells zero40 26))
  have hsz : (w.alloc (.cells zero40 26)).heap.size = w.heap.size + 1 := World.size_alloc _ _
  have HSZ := Lib.hid hsz
  clear h hb0 hsz
  unfold GivenPost
  by_cases he : which.tmod 2 = 0
  · have HE : Hid (givenP 4 which l = ((knownE (which.tdiv 2)).1, (knownE (which.tdiv 2)).2.1)) := Lib.hid (if_pos he)
    rw [HE.out]
    have HK : Hid (∀ W, Calls Tryz.prog 13 #[.int .i64 (which.tdiv 2)] W (KnownPost (knownE (which.tdiv 2)).1 (knownE (which.tdiv 2)).2.1 (knownE (which.tdiv 2)).2.2 W)) := Lib.hid fun W => known60_any W _
    unfold KnownPost at HK
    have d1 : (which.tmod 2 == 0) = true := by simpa using he
    clear HE he hd
    generalize (knownE (which.tdiv 2)).1 = p1 at *
    generalize (knownE (which.tdiv 2)).2.1 = p2 at *
    generalize (knownE (which.tdiv 2)).2.2 = p3 at *
    go_enter Tryz.func6, Tryz.ntmps6
    go_wp2_with (first
      | ((with_reducible refine wpList_sel 4 ?_); refine wpList_val rfl (r_alloc40 rfl) ?_)
      | (go_at_call 13; (refine (HK.out _).mono ?_); rintro e w2 ⟨⟨A2, c2, rfl, ht⟩, hb⟩
         have HB2 := Lib.hid (bl3 HB0.out hb)
         have HT2 := Lib.hid ht
         have HG2 : Hid (w2.heap[w.heap.size]? = some (.cells zero40 26 (0, 0))) := Lib.hid ((hb.block _ (by rw [HSZ.out]; omega)).trans HG0.out)
         have HS2 : Hid (w.heap.size + 1 ≤ w2.heap.size) := Lib.hid (by have := hb.size; rw [HSZ.out] at this; exact this)
         have HG3 : Hid (∀ cs, ((w2.alloc (.cells zero40 26)).setRow w2.heap.size cs).heap[w.heap.size]? = some (.cells zero40 26 (0, 0))) := Lib.hid fun cs => (setRow_other _ _ _ _ (by have := HS2.out; omega)).trans ((((Below.refl w2.heap.size w2).alloc (Nat.le_refl _) (.cells zero40 26)).block _ (by have := HS2.out; omega)).trans HG2.out)
         clear ht hb)
      | ((with_reducible refine wpList_sel 5 ?_); refine wpList_val rfl (r_alloc40 rfl) ?_)
      | ((with_reducible refine wpList_selStore 26 5 15 ?_); refine wpList_skip rfl (r_store40 (.tmp 5) (.tmp 15) rfl w2.heap.size zero40 _ rfl rfl (heap_alloc_new w2 _) rfl rfl (one40 _ _ _ _)) ?_)
      | ((with_reducible refine wpList_sel 17 ?_); refine wpList_val rfl (r_loadAt 26 (.tmp 5) _ _ rfl rfl (load40 (setRow_heap _ _ _ _ _ _ (heap_alloc_new w2 _)))) ?_)
      | ((with_reducible refine wpList_selStore 26 4 17 ?_); refine wpList_skip rfl (r_store40 (.tmp 4) (.tmp 17) rfl w.heap.size zero40 _ rfl rfl (HG3.out _) rfl rfl (one40 _ _ _ _)) ?_))
    try simp only [Exit.inBlock, Exit.then]
    refine bodyPost_ret (results_40 (p := 4) rfl _ _ w.heap.size _ rfl (setRow_heap _ _ _ _ _ _ (HG3.out _)) rfl) rfl ⟨⟨_, _, rfl, ?_⟩, ?_⟩
    · refine HT2.out _ fun k hk hk2 => ?_
      rw [HSZ.out] at hk
      exact (setRow_other _ _ _ _ (by omega)).trans ((setRow_other _ _ _ _ (by omega)).trans (((Below.refl w2.heap.size w2).alloc (Nat.le_refl _) (.cells zero40 26)).block _ hk2))
    · exact below_setRow (below_setRow (HB2.out.alloc HB2.out.size _) (by have := HS2.out; omega) _) (Nat.le_refl _) _
  · have h3 := Int.emod_nonneg (which.tdiv 2) (show (3 : Int) ≠ 0 by omega)
    have h4 := Int.emod_lt_of_pos (which.tdiv 2) (show (0 : Int) < 3 by omega)
    obtain ⟨m, hm⟩ := Int.eq_ofNat_of_zero_le h3
    have HE : Hid (givenP 4 which l = (((1 + m : Nat) : Int), lawWords (1 + m) 4 l)) := Lib.hid (by
      unfold givenP
      rw [if_neg he, hm, show (1 + (m : Int)).toNat = 1 + m by omega]
      exact Prod.ext (by show (1 : Int) + (m : Int) = ((1 + m : Nat) : Int); omega) (by simp))
    rw [HE.out]
    have hm3 : m < 3 := by omega
    have HT : Hid (∀ W, Calls Tryz.prog 21 #[.int .i64 (which.tdiv 2), .int .i64 3] W fun e w' => e = .returned (.int .i64 (m : Int)) ∧ w' = W) := Lib.hid fun W => by
      have := turn59_any W (which.tdiv 2) 3 (by omega)
      rwa [show ((3 : Nat) : Int) = 3 from rfl, hm] at this
    have HW : Hid (Calls Tryz.prog 22 #[.slice A l.length c, .int .i64 (1 + (m : Int))] (w.alloc (.cells zero40 26)) (LawWordsPost (lawWords (1 + m) 4 l) (w.alloc (.cells zero40 26)))) := Lib.hid (by
      rw [show 1 + (m : Int) = ((1 + m : Nat) : Int) by omega]
      exact words98_any _ _ l (1 + m) (kept_ints.below HI.out HB0.out) (by omega) hl)
    unfold LawWordsPost at HW
    have d1 : (which.tmod 2 == 0) = false := by simpa using he
    have hm0 : (0 : Int) ≤ (m : Int) := Int.natCast_nonneg _
    have hm1 : (m : Int) ≤ 2 := by omega
    have hmm : ((1 + m : Nat) : Int) = 1 + (m : Int) := by omega
    rw [hmm]
    clear HE he hd h3 h4 hm hmm
    generalize lawWords (1 + m) 4 l = X at *
    go_enter Tryz.func6, Tryz.ntmps6
    go_wp2_with (first
      | ((with_reducible refine wpList_sel 4 ?_); refine wpList_val rfl (r_alloc40 rfl) ?_)
      | (go_at_call 21; (refine (HT.out _).mono ?_); rintro e w1 ⟨rfl, rfl⟩)
      | (go_at_call 22; (refine HW.out.mono ?_); rintro e w2 ⟨⟨A2, c2, rfl, ht⟩, hb⟩
         have HB2 := Lib.hid (bl3 HB0.out hb)
         have HT2 := Lib.hid ht
         have HG2 : Hid (w2.heap[w.heap.size]? = some (.cells zero40 26 (0, 0))) := Lib.hid ((hb.block _ (by rw [HSZ.out]; omega)).trans HG0.out)
         clear ht hb)
      | ((with_reducible refine wpList_sel 26 ?_); refine wpList_val rfl (r_build40s (.tmp 22) (.tmp 25) (1 + (m : Int)) _ _ _ rfl rfl rfl) ?_; refine wpList_skip rfl (r_store40 (.tmp 4) (.tmp 26) rfl w.heap.size zero40 _ rfl rfl HG2.out rfl rfl (one40 _ _ _ _)) ?_))
    try simp only [Exit.inBlock, Exit.then]
    refine bodyPost_ret (results_40 (p := 4) rfl _ _ w.heap.size _ rfl (setRow_heap _ _ _ _ _ _ HG2.out) rfl) rfl ⟨⟨_, _, rfl, ?_⟩, ?_⟩
    · refine HT2.out _ fun k hk _ => ?_
      rw [HSZ.out] at hk
      exact setRow_other _ _ _ _ (by omega)
    · exact below_setRow HB2.out (Nat.le_refl _) _
end Go.Proofs
namespace Go.Proofs
open Go.RowKit Go.Shelf Go.Proofs.Ct Go.Maps
def usB (ops : Array Oper) (N : Nat) (us : Nat → Nat → Bool) : Bool := (List.range N).all fun i => (List.range N).all fun j => !us i j || (match ops[i]? with | some o => o.after.toList.any fun e => decide (e.on = j) && Region.binds .any e | none => false)
theorem us_of {ops : Array Oper} {N : Nat} {us : Nat → Nat → Bool} (h : usB ops N us = true) : ∀ i j, i < N → j < N → us i j = true → ∀ o, ops[i]? = some o → ∃ e ∈ o.after.toList, e.on = j ∧ Region.binds .any e = true := fun i j hi hj hu o ho => by
  unfold usB at h
  rw [List.all_eq_true] at h
  have h1 := h i (by simpa using hi)
  rw [List.all_eq_true] at h1
  have h2 := h1 j (by simpa using hj)
  rw [hu, ho] at h2
  simp only [Bool.not_true, Bool.false_or, List.any_eq_true, Bool.and_eq_true, decide_eq_true_eq] at h2
  obtain ⟨e, he, h3, h4⟩ := h2
  exact ⟨e, he, h3, h4⟩
def uqB (N : Nat) (wr : Nat → Bool) (us : Nat → Nat → Bool) : Bool := (List.range N).all fun i => (List.range N).all fun i' => (List.range N).all fun j => !wr j || !us i j || !us i' j || i == i'
theorem uq_of {N : Nat} {wr : Nat → Bool} {us : Nat → Nat → Bool} (h : uqB N wr us = true) : ∀ i i' j, i < N → i' < N → j < N → wr j = true → us i j = true → us i' j = true → i = i' := fun i i' j hi hi' hj h1 h2 h3 => by
  unfold uqB at h
  rw [List.all_eq_true] at h
  have k1 := h i (by simpa using hi)
  rw [List.all_eq_true] at k1
  have k2 := k1 i' (by simpa using hi')
  rw [List.all_eq_true] at k2
  have k3 := k2 j (by simpa using hj)
  rw [h1, h2, h3] at k3
  simpa using k3
structure Step (N : Nat) (wr : Nat → Bool) (us : Nat → Nat → Bool) (O : Nat → Nat → Prop) (i : Nat) (O' : Nat → Prop) (w w' : World) : Prop where
  size : w.heap.size ≤ w'.heap.size
  keep : ∀ k, k < w.heap.size → (∀ j, j < N → us i j = true → wr j = true → ¬ O j k) → w'.heap[k]? = w.heap[k]?
  foot : ∀ k, O' k → k < w'.heap.size ∧ (w.heap.size ≤ k ∨ ∃ j, j < N ∧ us i j = true ∧ O j k ∧ (wr i = true → wr j = true))
section
variable {F : Fence} {n : Nat} {P : Program} {ops : Array Oper} {Q : Exit → Act → World → Prop}
theorem wpIn_region_own {id : Nat} {a0 : Act} {w : World} (hm : P.follows .mixedOrders = true) (N : Nat) (hN : ops.size = N) (dm : Nat → Option Tmp) (hlex : ∀ (i : Nat) (o : Oper), ops[i]? = some o → ∀ e ∈ o.after.toList, Region.binds .any e = true → e.on < i)
    (base : Nat) (wr : Nat → Bool) (us : Nat → Nat → Bool) (S : World → Prop) (Φ : Nat → Value → (Nat → Prop) → World → Prop)
    (hus : usB ops N us = true) (huq : uqB N wr us = true)
    (hdm : ∀ i j t, i < N → j < N → dm i = some t → dm j = some t → i = j)
    (hst : ∀ (j : Nat) (v : Value) (O : Nat → Prop) (W W' : World), j < N → (∀ k, O k → k < W.heap.size) → (∀ k, O k → W'.heap[k]? = W.heap[k]?) → W.heap.size ≤ W'.heap.size → S W → S W' → Φ j v O W → Φ j v O W')
    (hsz : ∀ i t, i < N → dm i = some t → t < a0.tmps.size) (hbase : base ≤ w.heap.size) (h0 : S w.drew)
    (hop : ∀ (O : Nat → Nat → Prop) (ls : Nat → Bool) (i : Nat) (o : Oper) (a : Act) (w : World), i < N → ops[i]? = some o → S w → base ≤ w.heap.size → ls i = false → Part a0 dm N ls a →
      (∀ j, j < N → us i j = true → Φ j (slotv a (dm j)) (O j) w ∧ ∀ k, O j k → base ≤ k ∧ k < w.heap.size) →
      (∀ j j' k, j < N → j' < N → us i j = true → us i j' = true → j ≠ j' → wr j = true → O j k → ¬ O j' k) →
      wpOpIn F n P ops Q i (fun a' w' => ∃ v O', a' = a.put (dm i) v ∧ S w' ∧ (dm i = none → v = undef) ∧ Step N wr us O i O' w w' ∧ Φ i v O' w') a w)
    (hend : ∀ (O : Nat → Nat → Prop) (ls : Nat → Bool) (a : Act) (w : World), (∀ i, i < N → ls i = true) → S w → base ≤ w.heap.size → Part a0 dm N ls a → (∀ j, j < N → (wr j = false ∨ ∀ i, i < N → us i j = false) → Φ j (slotv a (dm j)) (O j) w ∧ ∀ k, O j k → base ≤ k ∧ k < w.heap.size) → Q .normal a w) :
    (Code.region id ops true).wpIn F n P Q a0 w := by
  subst hN
  have hus' := us_of hus
  have huq' := uq_of huq
  refine wpIn_region_any hm ?_
  let lv : (Nat → Bool) → Nat → Prop := fun ls j => ls j = true ∧ ∀ i, i < ops.size → us i j = true → wr j = true → ls i = false
  refine wpAnyIn_inv (fun listed a w => Closed ops listed ∧ S w ∧ base ≤ w.heap.size ∧ Part a0 dm ops.size (fun j => listed.getD j false) a ∧ ∃ O : Nat → Nat → Prop,
    (∀ j k, j < ops.size → listed.getD j false = true → O j k → base ≤ k ∧ k < w.heap.size) ∧
    (∀ j j' k, j < ops.size → j' < ops.size → lv (fun j => listed.getD j false) j → lv (fun j => listed.getD j false) j' → j ≠ j' → wr j = true → O j k → ¬ O j' k) ∧
    (∀ j, j < ops.size → lv (fun j => listed.getD j false) j → Φ j (slotv a (dm j)) (O j) w)) ?_ ?_ ops.size _ a0 _ (by simp) ?_ ⟨fun i o ho h => ?_, h0, hbase, ⟨rfl, rfl, fun _ _ => rfl⟩, fun _ _ => False, fun j k _ _ h => h.elim, fun j j' k _ _ _ _ _ _ h => h.elim, fun j hj h => ?_⟩
  · rintro listed a w i hls ⟨hcl, hS, hbw, hP, O, hOb, hOd, hsl⟩ hi
    obtain ⟨h1, h2, o, ho, hpre⟩ := ready_mem hi
    rw [getD_true_false (by omega)] at h2
    have hsetD : ∀ j, (listed.setIfInBounds i true).getD j false = if i = j then true else listed.getD j false := fun j => getD_set_listed (by omega)
    have hcl' : Closed ops (listed.setIfInBounds i true) := fun j oj hoj hl e he hb => by
      rw [hsetD] at hl ⊢
      by_cases eij : i = j
      · subst eij
        rw [ho] at hoj; cases hoj
        have := hpre e he hb
        split
        · rfl
        · exact this
      · rw [if_neg eij] at hl
        have := hcl j oj hoj hl e he hb
        split
        · rfl
        · exact this
    -- what i takes is live
    have hlive : ∀ j, j < ops.size → us i j = true → lv (fun j => listed.getD j false) j := fun j hj hu => by
      obtain ⟨e, he, rfl, hb⟩ := hus' i j h1 hj hu o ho
      refine ⟨hpre e he hb, fun i' hi' hu' hw => ?_⟩
      have := huq' i i' e.on h1 hi' hj hw hu hu'
      subst this
      exact h2
    have hwp := hop O _ i o a w h1 ho hS hbw h2 hP (fun j hj hu => ⟨hsl j hj (hlive j hj hu), fun k hk => hOb j k hj (hlive j hj hu).1 hk⟩) (fun j j' k hj hj' hu hu' hne hw => hOd j j' k hj hj' (hlive j hj hu) (hlive j' hj' hu') hne hw)
    refine wpOpIn_mono (fun a' w' h => ?_) hwp
    obtain ⟨v, O', rfl, hS', hvn, hstep, hv⟩ := h
    have hP' := hP.put h1 v
    rw [show (fun j => if i = j then true else listed.getD j false) = (fun j => (listed.setIfInBounds i true).getD j false) from (funext hsetD).symm] at hP'
    -- what is live behind the step was live, and i has not taken it
    have hback : ∀ j, j < ops.size → i ≠ j → lv (fun j => (listed.setIfInBounds i true).getD j false) j → lv (fun j => listed.getD j false) j ∧ (us i j = true → wr j = false) := fun j hj hne hl => by
      obtain ⟨l1, l2⟩ := hl
      have l1' : (listed.setIfInBounds i true).getD j false = true := l1
      rw [hsetD, if_neg hne] at l1'
      refine ⟨⟨l1', fun i' hi' hu hw => ?_⟩, fun hu => ?_⟩
      · have h3 : (listed.setIfInBounds i true).getD i' false = false := l2 i' hi' hu hw
        rw [hsetD] at h3
        split at h3
        · cases h3
        · exact h3
      · rcases hw : wr j with _ | _
        · rfl
        · have h3 : (listed.setIfInBounds i true).getD i false = false := l2 i h1 hu hw
          rw [hsetD, if_pos rfl] at h3
          cases h3
    refine ⟨hcl', hS', Nat.le_trans hbw hstep.size, hP', fun j => if i = j then O' else O j, fun j k hj hl hk => ?_, fun j j' k hj hj' hl hl' hne hw hk hk' => ?_, fun j hj hl => ?_⟩
    · replace hk : (if i = j then O' else O j) k := hk
      by_cases e : i = j
      · rw [if_pos e] at hk
        obtain ⟨h3, h4⟩ := hstep.foot k hk
        refine ⟨?_, h3⟩
        rcases h4 with h4 | ⟨j0, h5, h6, h7, -⟩
        · omega
        · exact (hOb j0 k h5 (hlive j0 h5 h6).1 h7).1
      · rw [if_neg e] at hk
        rw [hsetD, if_neg e] at hl
        have := hOb j k hj hl hk
        exact ⟨this.1, Nat.lt_of_lt_of_le this.2 hstep.size⟩
    · replace hk : (if i = j then O' else O j) k := hk
      replace hk' : (if i = j' then O' else O j') k := hk'
      by_cases e : i = j
      · subst e
        rw [if_pos rfl] at hk
        rw [if_neg hne] at hk'
        obtain ⟨b1, b2⟩ := hback j' hj' hne hl'
        obtain ⟨h3, h4⟩ := hstep.foot k hk
        rcases h4 with h4 | ⟨j0, h5, h6, h7, h8⟩
        · have := (hOb j' k hj' b1.1 hk').2
          omega
        · have hw0 := h8 hw
          by_cases e0 : j0 = j'
          · subst e0
            rw [b2 h6] at hw0; cases hw0
          · exact hOd j0 j' k h5 hj' (hlive j0 h5 h6) b1 e0 hw0 h7 hk'
      · rw [if_neg e] at hk
        obtain ⟨b1, b2⟩ := hback j hj e hl
        by_cases e' : i = j'
        · subst e'
          rw [if_pos rfl] at hk'
          obtain ⟨h3, h4⟩ := hstep.foot k hk'
          rcases h4 with h4 | ⟨j0, h5, h6, h7, -⟩
          · have := (hOb j k hj b1.1 hk).2
            omega
          · by_cases e0 : j = j0
            · subst e0
              rw [b2 h6] at hw; cases hw
            · exact hOd j j0 k hj h5 b1 (hlive j0 h5 h6) e0 hw hk h7
        · rw [if_neg e'] at hk'
          exact hOd j j' k hj hj' b1 (hback j' hj' e' hl').1 hne hw hk hk'
    · show Φ j (slotv (a.put (dm i) v) (dm j)) (if i = j then O' else O j) w'
      by_cases e : i = j
      · subst e
        rw [if_pos rfl]
        have : slotv (a.put (dm i) v) (dm i) = v := by
          cases hdi : dm i with
          | none => rw [hvn hdi]; rfl
          | some t => exact put_getD_same _ _ _ (by rw [hP.size]; exact hsz i t h1 hdi)
        rw [this]
        exact hv
      · rw [if_neg e]
        obtain ⟨b1, b2⟩ := hback j hj e hl
        have hv' : slotv (a.put (dm i) v) (dm j) = slotv a (dm j) := by
          cases hdj : dm j with
          | none => rfl
          | some t =>
            cases hdi : dm i with
            | none => rfl
            | some t' => exact put_getD_ne _ _ _ _ (fun e' => e (hdm i j t h1 hj (by rw [hdi, e']) hdj))
        rw [hv']
        refine hst j _ _ w w' hj (fun k hk => (hOb j k hj b1.1 hk).2) (fun k hk => hstep.keep k (hOb j k hj b1.1 hk).2 fun j0 h5 h6 h7 h8 => ?_) hstep.size hS hS' (hsl j hj b1)
        by_cases e0 : j0 = j
        · subst e0
          rw [b2 h6] at h7; cases h7
        · exact hOd j0 j k h5 hj (hlive j0 h5 h6) b1 e0 h7 h8 hk
  · rintro listed a w hls ⟨hcl, hS, hbw, hP, O, hOb, hOd, hsl⟩ hr
    have hready : ∀ i, i < ops.size → listed.getD i false = true := by
      intro i
      induction i using Nat.strongRecOn with
      | _ i ih =>
        intro hi
        rcases hl : listed.getD i false with _ | _
        · have hmem : i ∈ Region.ready .any ops listed := by
            simp only [Region.ready, List.mem_filter, List.mem_range, Bool.and_eq_true, Bool.not_eq_true']
            refine ⟨hi, by rw [getD_true_false (by omega)]; exact hl, ?_⟩
            rw [Array.getElem?_eq_getElem hi]
            simp only [Option.map_some, Option.getD_some]
            rw [Array.all_eq_true_iff_forall_mem]
            intro e he
            by_cases hb : Region.binds .any e = true
            · have hlt := hlex i _ (Array.getElem?_eq_getElem hi) e (by simpa using he) hb
              simp [ih e.on hlt (by omega)]
            · simp [hb]
          rw [hr] at hmem; cases hmem
        · rfl
    refine hend O _ a w hready hS hbw hP (fun j hj hd => ⟨hsl j hj ⟨hready j hj, fun i hi hu hw => ?_⟩, fun k hk => hOb j k hj (hready j hj) hk⟩)
    rcases hd with hd | hd
    · rw [hd] at hw; cases hw
    · rw [hd i hi] at hu; cases hu
  · simp
  · have : (Array.replicate ops.size false).getD i false = false := by
      simp only [Array.getD_eq_getD_getElem?, Array.getElem?_replicate]; split <;> rfl
    rw [this] at h; cases h
  · have h1 := h.1
    have : (Array.replicate ops.size false).getD j false = false := by
      simp only [Array.getD_eq_getD_getElem?, Array.getElem?_replicate]; split <;> rfl
    have h2 : (Array.replicate ops.size false).getD j false = true := h1
    rw [this] at h2; cases h2
end
end Go.Proofs
namespace Go.Proofs
open Go.RowKit Go.Shelf Go.Proofs.Ct Go.Maps
def TabS (F : Nat → Prop) (w : World) (u : Value) (ys : List (List Int)) : Prop := ∃ vs, (∀ w', Ag F w w' → Sl w' u vs) ∧ RowsF F w vs ys
def RdT (F : Nat → Prop) (w : World) (u : Value) (ys : List (List Int)) : Prop := ∀ w', Ag F w w' → Tab w' u ys
section
variable {F G : Nat → Prop} {w w' : World} {u : Value} {ys : List (List Int)}
theorem TabS.keep (h : TabS F w u ys) (ha : Ag F w w') : TabS F w' u ys := by
  obtain ⟨vs, h1, h2⟩ := h
  exact ⟨vs, fun w'' h' => h1 w'' (ha.trans h'), h2.keep ha fun _ h => h⟩
theorem TabS.mono (h : TabS F w u ys) (hg : ∀ k, F k → G k) : TabS G w u ys := by
  obtain ⟨vs, h1, h2⟩ := h
  exact ⟨vs, fun w' h' => h1 w' fun k hk => h' k (hg k hk), h2.keep (Ag.refl _ _) hg⟩
theorem RdT.keep (h : RdT F w u ys) (ha : Ag F w w') : RdT F w' u ys := fun w'' h' => h w'' (ha.trans h')
theorem RdT.mono (h : RdT F w u ys) (hg : ∀ k, F k → G k) : RdT G w u ys := fun w' h' => h w' fun k hk => h' k (hg k hk)
theorem RdT.tab (h : RdT F w u ys) : Tab w u ys := h w (Ag.refl _ _)
theorem RdT.of_tabB {base : Nat} (h : TabB base w u ys) : RdT (fun k => base ≤ k ∧ k < w.heap.size) w u ys := fun w' ha => h w' fun k h1 h2 => ha k ⟨h1, h2⟩
end
inductive FP where
  | any | eq (v : Value) | ints (l : List Int) | tab (l : List (List Int)) | rd (l : List (List Int)) | own (l : List Int) | ownT (l : List (List Int)) | box (e : TypeId) (cs : Array Value) | enum (t : List (List Int)) (a b c : Int) | tup (l : List Int) (e : Int) | tupT (l : List (List Int)) (e : Int)
def Fb (base : Nat) (O : Nat → Prop) : Nat → Prop := fun k => k < base ∨ O k
def FP.holds (base : Nat) : FP → Value → (Nat → Prop) → World → Prop
  | .any, _, _, _ => True
  | .eq u, v, _, _ => v = u
  | .ints l, v, O, w => ∃ A c, v = .slice A l.length c ∧ IntsF (Fb base O) w (.slice A l.length c) l
  | .tab l, v, O, w => ∃ A c, v = .slice A l.length c ∧ TabS (Fb base O) w (.slice A l.length c) l
  | .rd l, v, O, w => ∃ A c, v = .slice A l.length c ∧ RdT (Fb base O) w (.slice A l.length c) l
  | .own l, v, O, w => ∃ A c, v = .slice A l.length c ∧ OwnI base w (.slice A l.length c) l ∧ ∀ r, (Value.slice A l.length c).ownBlock = some r → O r
  | .ownT l, v, O, w => ∃ A c F, v = .slice A l.length c ∧ OwnT 39 base F w (.slice A l.length c) l ∧ (∀ k, F k → Fb base O k ∧ k < w.heap.size ∧ (Value.slice A l.length c).ownBlock ≠ some k) ∧ ∀ r, (Value.slice A l.length c).ownBlock = some r → O r
  | .box e cs, v, O, w => ∃ q, v = .pointer (some ⟨q, 0, none⟩) ∧ O q ∧ w.heap[q]? = some (.cells cs e (0, 0))
  | .enum t a b c, v, O, w => ∃ A n, v = .tuple #[.slice A t.length n, .agg #[.int .i64 a, .int .i64 b, .int .i64 0], .int .i64 c] ∧ RdT (Fb base O) w (.slice A t.length n) t
  | .tup l e, v, O, w => ∃ A n, v = .tuple #[.slice A l.length n, .int .i64 e] ∧ IntsF (Fb base O) w (.slice A l.length n) l
  | .tupT l e, v, O, w => ∃ A n, v = .tuple #[.slice A l.length n, .int .i64 e] ∧ RdT (Fb base O) w (.slice A l.length n) l
section
variable {base : Nat} {O O' : Nat → Prop} {W0 w w' : World} {v : Value}
theorem ag_fb (_hb : W0.heap.size = base) (h1 : Below base W0 w) (h2 : Below base W0 w') (h : ∀ k, O k → w'.heap[k]? = w.heap[k]?) : Ag (Fb base O) w w' := fun k hk => by
  rcases hk with hk | hk
  · rw [h1.block k (by omega), h2.block k (by omega)]
  · exact h k hk
theorem FP.keep {p : FP} (hb : W0.heap.size = base) (h1 : Below base W0 w) (h2 : Below base W0 w') (hs : w.heap.size ≤ w'.heap.size) (h : ∀ k, O k → w'.heap[k]? = w.heap[k]?) : p.holds base v O w → p.holds base v O w' := by
  have ha := ag_fb hb h1 h2 h
  cases p with
  | any => exact id
  | eq u => exact id
  | ints l => exact fun ⟨A, c, e, k⟩ => ⟨A, c, e, k.keep ha⟩
  | tab l => exact fun ⟨A, c, e, k⟩ => ⟨A, c, e, k.keep ha⟩
  | rd l => exact fun ⟨A, c, e, k⟩ => ⟨A, c, e, k.keep ha⟩
  | own l => exact fun ⟨A, c, e, k, k2⟩ => ⟨A, c, e, owns_keep k fun r hr => h r (k2 r hr), k2⟩
  | ownT l => exact fun ⟨A, c, F, e, k, k2, k3⟩ => ⟨A, c, F, e, k.keep (fun r hr => h r (k3 r hr)) (fun x hx => ha x (k2 x hx).1) (fun _ h => h), fun x hx => ⟨(k2 x hx).1, Nat.lt_of_lt_of_le (k2 x hx).2.1 hs, (k2 x hx).2.2⟩, k3⟩
  | box e cs => exact fun ⟨q, e, k, k2⟩ => ⟨q, e, k, (h q k).trans k2⟩
  | enum t a b c => exact fun ⟨A, n, e, k⟩ => ⟨A, n, e, k.keep ha⟩
  | tup l x => exact fun ⟨A, n, e, k⟩ => ⟨A, n, e, k.keep ha⟩
  | tupT l x => exact fun ⟨A, n, e, k⟩ => ⟨A, n, e, k.keep ha⟩
theorem FP.mono {p : FP} (hO : ∀ k, O k → O' k) : p.holds base v O w → p.holds base v O' w := by
  have hF : ∀ k, Fb base O k → Fb base O' k := fun k hk => hk.imp id (hO k)
  cases p with
  | any => exact id
  | eq u => exact id
  | ints l => exact fun ⟨A, c, e, k⟩ => ⟨A, c, e, k.mono hF⟩
  | tab l => exact fun ⟨A, c, e, k⟩ => ⟨A, c, e, k.mono hF⟩
  | rd l => exact fun ⟨A, c, e, k⟩ => ⟨A, c, e, k.mono hF⟩
  | own l => exact fun ⟨A, c, e, k, k2⟩ => ⟨A, c, e, k, fun r hr => hO r (k2 r hr)⟩
  | ownT l => exact fun ⟨A, c, F, e, k, k2, k3⟩ => ⟨A, c, F, e, k, fun x hx => ⟨hF x (k2 x hx).1, (k2 x hx).2⟩, fun r hr => hO r (k3 r hr)⟩
  | box e cs => exact fun ⟨q, e, k, k2⟩ => ⟨q, e, hO q k, k2⟩
  | enum t a b c => exact fun ⟨A, n, e, k⟩ => ⟨A, n, e, k.mono hF⟩
  | tup l x => exact fun ⟨A, n, e, k⟩ => ⟨A, n, e, k.mono hF⟩
  | tupT l x => exact fun ⟨A, n, e, k⟩ => ⟨A, n, e, k.mono hF⟩
end
def Mx (N : Nat) (wr : Nat → Bool) (us : Nat → Nat → Bool) (O : Nat → Nat → Prop) (i : Nat) (w w' : World) : Nat → Prop := fun k => k < w'.heap.size ∧ (w.heap.size ≤ k ∨ ∃ j, j < N ∧ us i j = true ∧ O j k ∧ (wr i = true → wr j = true))
section
variable {N : Nat} {wr : Nat → Bool} {us : Nat → Nat → Bool} {O : Nat → Nat → Prop} {i : Nat} {w w' : World}
theorem Step.below (h : Below w.heap.size w w') : Step N wr us O i (Mx N wr us O i w w') w w' := ⟨h.size, fun k hk _ => h.block k hk, fun _ h => h⟩
theorem Step.same : Step N wr us O i (Mx N wr us O i w w) w w := Step.below (Below.refl _ _)
theorem Mx.fresh {k : Nat} (h1 : w.heap.size ≤ k) (h2 : k < w'.heap.size) : Mx N wr us O i w w' k := ⟨h2, .inl h1⟩
theorem Mx.of {j k : Nat} (hj : j < N) (hu : us i j = true) (hw : wr i = true → wr j = true) (hO : O j k) (hk : k < w'.heap.size) : Mx N wr us O i w w' k := ⟨hk, .inr ⟨j, hj, hu, hO, hw⟩⟩
end
section
variable {o : Oper} {a : Act} {w w' : World} {n : Nat} {v : Value}
theorem r_extract (k : Nat) (x : Operand) (vs : Array Value) (ho : o.op = .extract x k) (hx : a.eval x = .tuple vs) (hk : vs[k]? = some v) : (execOp a.eval o).run Tryz.prog w = .ok (.value v) w := by
  unfold execOp
  simp only [ho, hx]
  simp [go_sem, hk]
theorem alloc49 (w : World) : (Instr.alloc 41 true (.tuple #[])).run Tryz.prog w = .ok (.pointer (some ⟨w.heap.size, 0, none⟩)) (w.alloc (.cells #[.int .i64 0, .int .i64 0, .int .i64 0] 41)) := by kernel_rfl
theorem r_alloc49 (ho : o.op = .alloc 41) : (execOp a.eval o).run Tryz.prog w = .ok (.value (.pointer (some ⟨w.heap.size, 0, none⟩))) (w.alloc (.cells #[.int .i64 0, .int .i64 0, .int .i64 0] 41)) := by
  have hb := alloc49 w
  unfold execOp
  simp only [ho, Sem.run_bind, hb, Result.andThen_ok]
  rfl
end
theorem info49s : (Tryz.prog.info? 41).map (·.size) = some 3 := by kernel_rfl
theorem r_store49 {o : Oper} {a : Act} {w : World} (x y : Operand) (ho : o.op = .store 41 x y) (g : Nat) (old : Array Value) (p q r : Int) (hx : a.eval x = .pointer (some ⟨g, 0, none⟩)) (hy : a.eval y = .agg #[.int .i64 p, .int .i64 q, .int .i64 r]) (hg : w.heap[g]? = some (.cells old 41 (0, 0)))
    (hoo : old.size = 3) : (execOp a.eval o).run Tryz.prog w = .ok .skip (w.setRow g #[.int .i64 p, .int .i64 q, .int .i64 r]) := by
  unfold execOp
  simp only [ho, hx, hy, Instr.storeAt, Instr.sureAddr, Sem.run_bind, Sem.run_pure, Result.andThen_ok, run_storeVar_row w g 41 41 old #[.int .i64 p, .int .i64 q, .int .i64 r] hg (by exact info49s) (by simp [hoo]) (by simp [Value.oneCell'])]
end Go.Proofs
namespace Go.Proofs.Ct
section
variable {g lim lim' : Nat} {s : St}
theorem fillF_mono : ∀ (fuel fuel' : Nat) {s : St}, Good g lim s → lim < fuel + s.t.length → ∀ {r : Nat}, r < s.t.length → s.rp r = r → ∀ {w : W}, LOk g w → ∀ s', fillF (2 * g) lim fuel s r w = some s' → s'.t.length ≤ lim' → lim' < fuel' + s.t.length → fillF (2 * g) lim' fuel' s r w = some s'
  | 0, _, _, _, _, _, _, _, _, _, s', e, _, _ => by cases e
  | fuel + 1, fuel', s, h, hf, r, hr, hl, w, hw, s', e, hn', hf' => by
    have hE := (fillF_good (fuel + 1) h hf hr hl hw s' e).2.n
    obtain ⟨f', rfl⟩ : ∃ f', fuel' = f' + 1 := ⟨fuel' - 1, by omega⟩
    obtain ⟨a, b⟩ := scan_rest h.rest hr hl hw
    unfold fillF at e ⊢
    cases hsc : scanS (2 * g) s r w with
    | mk s2 o =>
      rw [hsc] at e
      cases o with
      | none => exact e
      | some fc =>
        obtain ⟨f, c⟩ := fc
        simp only at e ⊢
        obtain ⟨-, h2, h3, h4, h5⟩ := b _ _ _ hsc
        split at e
        · cases e
        · rename_i hne
          obtain ⟨k1, k2⟩ := h.defn h2 h3 h4 h5 (by have := h.n2; omega)
          have hn := length_def (s := s) (2 * g) f c
          have hrd : (defS (2 * g) s f c).rp r = r := by rw [rp_def_old h.rest.inv _ _ _ hr]; exact hl
          have hE2 := (fillF_good fuel k1 (by omega) (r := r) (by omega) hrd hw s' e).2.n
          rw [if_neg (by omega)]
          exact fillF_mono fuel f' k1 (by omega) (by omega) hrd hw s' e hn' (by omega)
theorem fill_mono (h : Good g lim s) {r : Nat} (hr : r < s.t.length) (hl : s.rp r = r) {w : W} (hw : LOk g w) {s' : St} (e : fillS (2 * g) lim s r w = some s') (hn : s'.t.length ≤ lim') : fillS (2 * g) lim' s r w = some s' := by
  have h1 := h.n2
  have h2 := (fill_good h hr hl hw e).2.n
  exact fillF_mono _ _ h (by omega) hr hl hw s' e hn (by omega)
theorem optTo_mono {f f' : Nat → St → Option St} {p : Nat → St → Prop} {q : St → Prop} {s : St} (h0 : p 0 s) : ∀ (n : Nat) (_ : ∀ k x y, k < n → p k x → f k x = some y → p (k + 1) y ∧ x.t.length ≤ y.t.length ∧ (y.t.length ≤ lim' → f' k x = some y)) (y : St), optTo f n s = some y → y.t.length ≤ lim' → optTo f' n s = some y
  | 0, _, y, h, _ => h
  | n + 1, hf, y, h, hy => by
    rw [optTo_succ] at h ⊢
    cases hx : optTo f n s with
    | none => rw [hx] at h; cases h
    | some x =>
      rw [hx] at h
      have hp := optTo_inv h0 n (fun k x y hk a b => (hf k x y (by omega) a b).1) x hx
      obtain ⟨-, h2, h3⟩ := hf n x y (Nat.lt_succ_self n) hp h
      rw [optTo_mono (q := q) h0 n (fun k x y hk => hf k x y (by omega)) x hx (by omega)]
      exact h3 hy
theorem rel_mono {rels : List W} (hs : ∀ j, j < rels.length → LOk g (rels.getD j [])) {r : Nat} (h : Good g lim s) (hr : r < s.t.length) {s' : St} {k : Nat} (e : optTo (relS (2 * g) lim rels r) k s = some s') (hn : s'.t.length ≤ lim') : optTo (relS (2 * g) lim' rels r) k s = some s' :=
  optTo_mono (q := fun _ => True) (p := fun _ x => Good g lim x ∧ Ext g s x) ⟨h, Ext.refl h.rest⟩ k (fun i x y _ ⟨hx, hx2⟩ hy => by
    have hrx : r < x.t.length := Nat.lt_of_lt_of_le hr hx2.n
    unfold relS at hy
    by_cases hl : x.rp r = r
    · rw [if_pos hl] at hy
      obtain ⟨a, b⟩ := fill_good hx hrx hl (getD_all hs LOk.nil i) hy
      refine ⟨⟨a, hx2.trans h.rest hx.rest b⟩, b.n, fun hy' => ?_⟩
      unfold relS
      rw [if_pos hl]
      exact fill_mono hx hrx hl (getD_all hs LOk.nil i) hy hy'
    · rw [if_neg hl] at hy
      cases hy
      exact ⟨⟨hx, hx2⟩, Nat.le_refl _, fun _ => by unfold relS; rw [if_neg hl]⟩) s' e hn
theorem col_mono {r : Nat} (h : Good g lim s) (hr : r < s.t.length) {k : Nat} (hk : k ≤ 2 * g) {s' : St} (e : optTo (colS (2 * g) lim r) k s = some s') (hn : s'.t.length ≤ lim') : optTo (colS (2 * g) lim' r) k s = some s' :=
  optTo_mono (q := fun _ => True) (p := fun _ x => Good g lim x ∧ Ext g s x) ⟨h, Ext.refl h.rest⟩ k (fun c x y hc ⟨hx, hx2⟩ hy => by
    have hrx : r < x.t.length := Nat.lt_of_lt_of_le hr hx2.n
    unfold colS at hy
    by_cases hl : x.rp r = r ∧ x.t.at r c < 0
    · rw [if_pos hl] at hy
      by_cases hne : x.t.length = lim
      · rw [if_pos hne] at hy; cases hy
      · rw [if_neg hne] at hy
        cases hy
        obtain ⟨a, b⟩ := hx.defn hrx (by omega) hl.1 hl.2 (by have := hx.n2; omega)
        have hn := length_def (s := x) (2 * g) r c
        refine ⟨⟨a, hx2.trans h.rest hx.rest b⟩, b.n, fun hy' => ?_⟩
        unfold colS
        rw [if_pos hl, if_neg (by omega)]
    · rw [if_neg hl] at hy
      cases hy
      exact ⟨⟨hx, hx2⟩, Nat.le_refl _, fun _ => by unfold colS; rw [if_neg hl]⟩) s' e hn
theorem row_mono {rels : List W} (hs : ∀ j, j < rels.length → LOk g (rels.getD j [])) {r : Nat} (h : Good g lim s) (hr : r < s.t.length) {s' : St} (e : rowS (2 * g) lim rels r s = some s') (hn : s'.t.length ≤ lim') : rowS (2 * g) lim' rels r s = some s' := by
  unfold rowS at e ⊢
  cases hx : optTo (relS (2 * g) lim rels r) rels.length s with
  | none => rw [hx] at e; cases e
  | some x =>
    rw [hx] at e
    obtain ⟨a, b⟩ := rel_good hs h hr hx
    have hrx : r < x.t.length := Nat.lt_of_lt_of_le hr b.n
    have hxl := (col_good a hrx (Nat.le_refl _) e).2.1.n
    rw [rel_mono hs h hr hx (by omega)]
    exact col_mono a hrx (Nat.le_refl _) e hn
theorem sub_mono {sub : List W} (hg : 1 ≤ lim) (hs : ∀ j, j < sub.length → LOk g (sub.getD j [])) {s' : St} {k : Nat} (e : optTo (subS (2 * g) lim sub) k (startS (2 * g)) = some s') (hn : s'.t.length ≤ lim') : optTo (subS (2 * g) lim' sub) k (startS (2 * g)) = some s' :=
  optTo_mono (q := fun _ => True) (p := fun _ s => Good g lim s) (start_good hg) k (fun i x y _ hx hy => by
    have hl := rp_zero hx.rest hx.n1
    obtain ⟨a, b⟩ := fill_good hx hx.n1 hl (getD_all hs LOk.nil i) hy
    exact ⟨a, b.n, fun hy' => fill_mono hx hx.n1 hl (getD_all hs LOk.nil i) hy hy'⟩) s' e hn
theorem rows_more {rels : List W} {m lim : Nat} {s x : St} {k : Nat} (h : optTo (rowsS m lim rels) k s = some x) (hk : x.t.length ≤ k) : ∀ d, optTo (rowsS m lim rels) (k + d) s = some x
  | 0 => h
  | d + 1 => by
    show (optTo (rowsS m lim rels) (k + d) s).bind (rowsS m lim rels (k + d)) = some x
    rw [rows_more h hk d]
    show rowsS m lim rels (k + d) x = some x
    unfold rowsS
    rw [if_neg (by omega)]
theorem rows_step {rels : List W} (hr : ∀ j, j < rels.length → LOk g (rels.getD j [])) {r : Nat} {x y : St} (hx : Good g lim x) (hy : rowsS (2 * g) lim rels r x = some y) (hc : Comp g x r) : (Good g lim y ∧ Comp g y (r + 1)) ∧ x.t.length ≤ y.t.length ∧ (y.t.length ≤ lim' → rowsS (2 * g) lim' rels r x = some y) := by
  unfold rowsS at hy
  by_cases hlt : r < x.t.length
  · rw [if_pos hlt] at hy
    obtain ⟨a, b, c⟩ := row_good hr hx hlt hc hy
    refine ⟨⟨a, c⟩, b.n, fun hy' => ?_⟩
    unfold rowsS
    rw [if_pos hlt]
    exact row_mono hr hx hlt hy hy'
  · rw [if_neg hlt] at hy
    cases hy
    exact ⟨⟨hx, fun z _ hzn c hcc => hc z (by omega) hzn c hcc⟩, Nat.le_refl _, fun _ => by unfold rowsS; rw [if_neg hlt]⟩
theorem rows_cut {rels : List W} (hr : ∀ j, j < rels.length → LOk g (rels.getD j [])) {x y : St} (hx : Good g lim x) {n : Nat} (e : optTo (rowsS (2 * g) lim rels) n x = some y) : ∀ k, k ≤ n → ∃ z, optTo (rowsS (2 * g) lim rels) k x = some z ∧ z.t.length ≤ y.t.length := by
  induction n generalizing y with
  | zero => intro k hk; obtain rfl : k = 0 := by omega
            exact ⟨y, e, Nat.le_refl _⟩
  | succ n ih =>
    intro k hk
    by_cases h : k = n + 1
    · subst h; exact ⟨y, e, Nat.le_refl _⟩
    · rw [optTo_succ] at e
      cases hz : optTo (rowsS (2 * g) lim rels) n x with
      | none => rw [hz] at e; cases e
      | some z =>
        rw [hz] at e
        obtain ⟨u, hu, hu2⟩ := ih hz k (by omega)
        obtain ⟨a, b⟩ := optTo_inv (p := fun k x => Good g lim x ∧ Comp g x k) ⟨hx, fun x hx => absurd hx (by omega)⟩ n (fun r x y _ ⟨hx1, hx2⟩ hy => (rows_step (lim' := lim) hr hx1 hy hx2).1) z hz
        have := (rows_step (lim' := lim) hr a e b).2.1
        exact ⟨u, hu, by omega⟩
theorem run_mono {rels sub : List W} (hg : 1 ≤ lim) (hr : ∀ j, j < rels.length → LOk g (rels.getD j [])) (hs : ∀ j, j < sub.length → LOk g (sub.getD j [])) {s' : St} (e : runS (2 * g) lim rels sub = some s') (hn : s'.t.length ≤ lim') : runS (2 * g) lim' rels sub = some s' := by
  have hgood := (run_good hg hr hs e).1
  unfold runS at e ⊢
  cases hx : optTo (subS (2 * g) lim sub) sub.length (startS (2 * g)) with
  | none => rw [hx] at e; cases e
  | some x =>
    rw [hx] at e
    have hG := sub_good hg hs hx
    have e' : optTo (rowsS (2 * g) lim rels) lim x = some s' := e
    obtain ⟨z, hz, hzl⟩ := rows_cut hr hG e' s'.t.length hgood.n2
    have hm := rows_more hz hzl (lim - s'.t.length)
    rw [show s'.t.length + (lim - s'.t.length) = lim by have := hgood.n2; omega, e'] at hm
    obtain rfl : s' = z := Option.some.inj hm
    obtain ⟨y0, hy0, hxl⟩ := rows_cut hr hG e' 0 (Nat.zero_le _)
    obtain rfl : x = y0 := Option.some.inj hy0
    rw [sub_mono hg hs hx (by omega)]
    have h2 : optTo (rowsS (2 * g) lim' rels) s'.t.length x = some s' := optTo_mono (q := fun _ => True) (p := fun k x => Good g lim x ∧ Comp g x k) ⟨hG, fun x hx => absurd hx (by omega)⟩ _ (fun r x y _ ⟨hx1, hx2⟩ hy => rows_step hr hx1 hy hx2) s' hz hn
    have h3 := rows_more h2 (Nat.le_refl _) (lim' - s'.t.length)
    rw [show s'.t.length + (lim' - s'.t.length) = lim' by omega] at h3
    exact h3
theorem run_less {rels sub : List W} (hg : 1 ≤ lim) (hr : ∀ j, j < rels.length → LOk g (rels.getD j [])) (hs : ∀ j, j < sub.length → LOk g (sub.getD j [])) {s' : St} (e : runS (2 * g) lim rels sub = some s') (h1 : 1 ≤ lim') (hn : lim' < s'.t.length) : runS (2 * g) lim' rels sub = none := by
  cases hx : runS (2 * g) lim' rels sub with
  | none => rfl
  | some x =>
    have hgx := (run_good h1 hr hs hx).1.n2
    have hgs := (run_good hg hr hs e).1.n2
    have := run_mono (lim := lim') (lim' := lim) h1 hr hs hx (by omega)
    rw [e] at this
    cases this
    omega
end
end Go.Proofs.Ct
namespace Go.Proofs.Ct
def Way (t : Tb) : Nat → W → Nat → Prop
  | x, [], y => x = y
  | x, l :: w, y => ∃ z, Edge t x (col l) z ∧ Way t z w y
section
variable {t : Tb} {g : Nat} {s s0 s1 : St}
theorem way_app {u v : W} : ∀ {x y : Nat}, Way t x (u ++ v) y ↔ ∃ z, Way t x u z ∧ Way t z v y := by
  induction u with
  | nil => intro x y; exact ⟨fun h => ⟨x, rfl, h⟩, fun ⟨z, h1, h2⟩ => by have e : x = z := h1; subst e; exact h2⟩
  | cons l u ih =>
    intro x y
    constructor
    · rintro ⟨z, h1, h2⟩
      obtain ⟨z', h3, h4⟩ := ih.1 h2
      exact ⟨z', ⟨z, h1, h3⟩, h4⟩
    · rintro ⟨z', ⟨z, h1, h3⟩, h4⟩
      exact ⟨z, h1, ih.2 ⟨z', h3, h4⟩⟩
theorem way_one {x y : Nat} {l : Int} : Way t x [l] y ↔ Edge t x (col l) y := ⟨fun ⟨z, h1, h2⟩ => by have e : z = y := h2; subst e; exact h1, fun h => ⟨y, h, rfl⟩⟩
theorem take_snocW {w : W} {k : Nat} (h : k < w.length) : w.take (k + 1) = w.take k ++ [w.getD k 0] := by
  rw [List.take_add_one, List.getD_eq_getElem?_getD, List.getElem?_eq_getElem h]; rfl
theorem way_of_lead {r : Nat} {w : W} : ∀ (k : Nat), k ≤ w.length → 0 ≤ leadTo t r w k → Way t r (w.take k) (leadTo t r w k).toNat
  | 0, _, _ => by
    rw [List.take_zero]
    show r = ((r : Int)).toNat
    omega
  | k + 1, hk, h => by
    rw [leadTo_succ] at h ⊢
    by_cases h1 : leadTo t r w k < 0
    · rw [if_pos h1] at h; omega
    · rw [if_neg h1] at h ⊢
      have ih := way_of_lead (r := r) (w := w) k (by omega) (by omega)
      rw [take_snocW (by omega)]
      refine way_app.2 ⟨_, ih, way_one.2 ?_⟩
      unfold Edge
      omega
theorem lead_of_way {r : Nat} {w : W} : ∀ (k : Nat), k ≤ w.length → ∀ {y : Nat}, Way t r (w.take k) y → leadTo t r w k = (y : Int)
  | 0, _, y, h => by
    rw [List.take_zero] at h
    have e : r = y := h
    subst e; rfl
  | k + 1, hk, y, h => by
    rw [take_snocW (by omega)] at h
    obtain ⟨z, h1, h2⟩ := way_app.1 h
    have ih := lead_of_way k (by omega) h1
    rw [leadTo_succ, ih, if_neg (by omega), Int.toNat_natCast]
    exact way_one.1 h2
theorem leads_iff {r y : Nat} {w : W} : leads t r w = (y : Int) ↔ Way t r w y := by
  constructor
  · intro h
    have := way_of_lead (t := t) (r := r) w.length (Nat.le_refl _) (by show 0 ≤ leads t r w; omega)
    rw [List.take_length] at this
    have e : (leadTo t r w w.length).toNat = y := by show (leads t r w).toNat = y; omega
    rwa [e] at this
  · intro h
    exact lead_of_way w.length (Nat.le_refl _) (by rw [List.take_length]; exact h)
theorem LOk.cons {l : Int} {w : W} (h : LOk g (l :: w)) : (-(g : Int) ≤ l ∧ l ≤ g ∧ l ≠ 0) ∧ LOk g w := ⟨h l (List.mem_cons_self ..), fun x hx => h x (List.mem_cons_of_mem _ hx)⟩
theorem col_ltL {l : Int} (h : -(g : Int) ≤ l ∧ l ≤ g ∧ l ≠ 0) : col l < 2 * g := by unfold col; split <;> omega
theorem inv_cons (l : Int) (w : W) : inv (l :: w) = inv w ++ [-l] := by simp [inv]
theorem inv_inv (w : W) : inv (inv w) = w := by simp [inv, Function.comp_def]
theorem inv_app (u v : W) : inv (u ++ v) = inv v ++ inv u := by simp [inv]
theorem way_inv (h : Inv g s) : ∀ {w : W} {x y : Nat}, LOk g w → x < s.t.length → Way s.t x w y → Way s.t y (inv w) x := by
  intro w
  induction w with
  | nil => intro x y _ _ h; exact Eq.symm h
  | cons l w ih =>
    rintro x y hw hx ⟨z, h1, h2⟩
    rw [inv_cons]
    refine way_app.2 ⟨z, ih hw.cons.2 (h1.lt h hx (col_ltL hw.cons.1)) h2, way_one.2 ?_⟩
    rw [col_inv hw.cons.1.2.2]
    exact h1.back h hx (col_ltL hw.cons.1)
theorem way_ext (h0 : Inv g s0) (h : Ext g s0 s1) : ∀ {w : W} {x y : Nat}, LOk g w → x < s0.t.length → Way s0.t x w y → Way s1.t (s1.rp x) w (s1.rp y) := by
  intro w
  induction w with
  | nil => intro x y _ _ h; have e : x = y := h; subst e; exact rfl
  | cons l w ih =>
    rintro x y hw hx ⟨z, h1, h2⟩
    have hz := h1.lt h0 hx (col_ltL hw.cons.1)
    exact ⟨_, h.edge _ _ _ hx (col_ltL hw.cons.1) h1, ih hw.cons.2 hz h2⟩
def Clo (s : St) (r : Nat) (w : W) : Prop := Way s.t (s.rp r) w (s.rp r)
theorem Clo.ext (h0 : Rest g s0) (h : Ext g s0 s1) {r : Nat} (hr : r < s0.t.length) {w : W} (hw : LOk g w) (hc : Clo s0 r w) : Clo s1 r w := by
  have := way_ext h0.inv h hw (h0.inv.rlt hr) hc
  rwa [h.coarse r hr] at this
theorem drop_inv {w : W} {k : Nat} (hk : k ≤ w.length) : inv ((inv w).take k) = w.drop (w.length - k) := by
  have h1 : inv w = inv (w.drop (w.length - k)) ++ inv (w.take (w.length - k)) := by rw [← inv_app, List.take_append_drop]
  have h2 : (inv (w.drop (w.length - k))).length = k := by rw [length_inv, List.length_drop]; omega
  rw [h1, List.take_append_of_le_length (by omega), List.take_of_length_le (by omega), inv_inv]
theorem scan_closed (h : Rest g s) {r : Nat} (hr : r < s.t.length) (hlr : s.rp r = r) {w : W} (hw : LOk g w) {s' : St} (e : scanS (2 * g) s r w = (s', none)) : Clo s' r w := by
  obtain ⟨f1, f2, f3⟩ := fwd_spec s.t r w
  have fp := fwd_pos s.t r w
  obtain ⟨b1, b2, b3⟩ := bwd_spec s.t r w (fwd s.t r w)
  have bp := bwd_pos s.t r w (fwd s.t r w)
  obtain ⟨fl, flv⟩ := lead_live h hw hr hlr _ f1 fp
  obtain ⟨bl, blv⟩ := lead_live h hw.inv hr hlr _ (by rw [length_inv]; exact b1) bp
  have hF := way_of_lead _ f1 fp
  have hB := way_inv h.inv (fun x hx => hw.inv x (List.mem_of_mem_take hx)) hr (way_of_lead _ (by rw [length_inv]; exact b1) bp)
  rw [drop_inv b1] at hB
  have hnext : fwd s.t r w < w.length → s.t.at (leadTo s.t r w (fwd s.t r w)).toNat (col (w.getD (fwd s.t r w) 0)) < 0 := fun hlt => by
    rcases f2 with f2 | f2
    · omega
    · rw [leadTo_succ, if_neg (by omega)] at f2
      exact f2
  have hback : ¬ w.length ≤ fwd s.t r w + bwd s.t r w (fwd s.t r w) → s.t.at (leadTo s.t r (Ct.inv w) (bwd s.t r w (fwd s.t r w))).toNat (col ((Ct.inv w).getD (bwd s.t r w (fwd s.t r w)) 0)) < 0 := fun hlt => by
    rcases b2 with b2 | b2
    · omega
    · rw [leadTo_succ, if_neg (by omega)] at b2
      exact b2
  have hik : fwd s.t r w + bwd s.t r w (fwd s.t r w) ≤ w.length := by
    rcases Nat.eq_zero_or_pos (bwd s.t r w (fwd s.t r w)) with h0 | h0
    · omega
    · have := (b3 (bwd s.t r w (fwd s.t r w) - 1) (by omega)).1
      omega
  have hwt : ∀ k, LOk g (w.take k) := fun k x hx => hw x (List.mem_of_mem_take hx)
  have hwd : ∀ k, LOk g (w.drop k) := fun k x hx => hw x (List.mem_of_mem_drop hx)
  unfold scanS at e
  generalize hi : fwd s.t r w = i at *
  generalize hk : bwd s.t r w i = k at *
  generalize leadTo s.t r w i = f at *
  generalize leadTo s.t r (Ct.inv w) k = b at *
  unfold Clo
  by_cases h1 : i = w.length
  · rw [if_pos h1] at e
    rw [h1, List.take_length] at hF
    by_cases h2 : f = (r : Int)
    · rw [if_pos h2] at e
      cases e
      rw [hlr]
      rw [h2, Int.toNat_natCast] at hF
      exact hF
    · rw [if_neg h2] at e
      cases e
      obtain ⟨c1, c2, c3, c4⟩ := coin_rest h fl hr
      have := way_ext h.inv (Ext.of_cov c1 c2) hw hr hF
      rwa [c3] at this
  · rw [if_neg h1] at e
    by_cases h2 : w.length ≤ i + k
    · rw [if_pos h2] at e
      cases e
      obtain ⟨c1, c2, c3, c4⟩ := coin_rest h fl bl
      have hE := Ext.of_cov c1 c2
      rw [show w.length - k = i by omega] at hB
      have w1 := way_ext h.inv hE (hwt i) hr hF
      have w2 := way_ext h.inv hE (hwd i) bl hB
      rw [c3] at w1
      have := way_app.2 ⟨_, w1, w2⟩
      rwa [List.take_append_drop] at this
    · rw [if_neg h2] at e
      have hil : i < w.length := by omega
      by_cases h3 : w.length = i + k + 1
      · rw [if_pos h3] at e
        cases e
        have hb := hback h2
        rw [inv_getD (by omega), show w.length - 1 - k = i by omega, col_inv (hw.getD hil).2.2] at hb
        obtain ⟨c1, c2, c3⟩ := h.join fl bl (hw.col hil) flv blv (hnext hil) hb
        rw [show w.length - k = i + 1 by omega] at hB
        have w1 := way_ext h.inv c2 (hwt i) hr hF
        have w2 := way_ext h.inv c2 (hwd (i + 1)) bl hB
        rw [rp_joinS, rp_joinS, hlr, flv] at w1
        rw [rp_joinS, rp_joinS, hlr, blv] at w2
        rw [rp_joinS, hlr]
        have := way_app.2 ⟨_, way_app.2 ⟨_, w1, way_one.2 c3⟩, w2⟩
        rwa [← take_snocW hil, List.take_append_drop] at this
      · rw [if_neg h3] at e
        cases e
end
end Go.Proofs.Ct
namespace Go.Proofs.Ct
section
variable {g lim : Nat} {s s0 s1 : St} {rels sub : List W}
theorem fillF_closed : ∀ (fuel : Nat) {s : St}, Good g lim s → ∀ {r : Nat}, r < s.t.length → s.rp r = r → ∀ {w : W}, LOk g w → ∀ s', fillF (2 * g) lim fuel s r w = some s' → Clo s' r w
  | 0, _, _, _, _, _, _, _, s', e => by cases e
  | fuel + 1, s, h, r, hr, hl, w, hw, s', e => by
    obtain ⟨a, b⟩ := scan_rest h.rest hr hl hw
    unfold fillF at e
    cases hsc : scanS (2 * g) s r w with
    | mk s2 o =>
      rw [hsc] at e
      cases o with
      | none =>
        simp only at e
        cases e
        exact scan_closed h.rest hr hl hw hsc
      | some fc =>
        obtain ⟨f, c⟩ := fc
        simp only at e
        obtain ⟨-, h2, h3, h4, h5⟩ := b _ _ _ hsc
        split at e
        · cases e
        · rename_i hne
          obtain ⟨k1, k2⟩ := h.defn h2 h3 h4 h5 (by have := h.n2; omega)
          have hn := length_def (s := s) (2 * g) f c
          exact fillF_closed fuel k1 (r := r) (by omega) (by rw [rp_def_old h.rest.inv _ _ _ hr]; exact hl) hw s' e
theorem fill_closed (h : Good g lim s) {r : Nat} (hr : r < s.t.length) (hl : s.rp r = r) {w : W} (hw : LOk g w) {s' : St} (e : fillS (2 * g) lim s r w = some s') : Clo s' r w := fillF_closed _ h hr hl hw s' e
def RC (rels : List W) (s : St) (k : Nat) : Prop := ∀ x, x < k → x < s.t.length → ∀ i, i < rels.length → Clo s x (rels.getD i [])
theorem RC.ext (h0 : Rest g s0) (h : Ext g s0 s1) (hr : ∀ j, j < rels.length → LOk g (rels.getD j [])) {k : Nat} (hk : k ≤ s0.t.length) (hc : RC rels s0 k) : RC rels s1 k := fun x hx _ i hi =>
  (hc x hx (by omega) i hi).ext h0 h (by omega) (hr i hi)
theorem clo_rp (h : Inv g s) {r : Nat} (hr : r < s.t.length) {w : W} (hc : Clo s (s.rp r) w) : Clo s r w := by
  unfold Clo at hc ⊢
  rwa [h.rid r hr] at hc
theorem rel_closed (hs : ∀ j, j < rels.length → LOk g (rels.getD j [])) {r : Nat} (h : Good g lim s) (hr : r < s.t.length) (hC : RC rels s r) {s' : St} {k : Nat} (e : optTo (relS (2 * g) lim rels r) k s = some s') :
    Good g lim s' ∧ Ext g s s' ∧ ∀ j, j < k → j < rels.length → Clo s' r (rels.getD j []) :=
  optTo_inv (p := fun k x => Good g lim x ∧ Ext g s x ∧ ∀ j, j < k → j < rels.length → Clo x r (rels.getD j [])) ⟨h, Ext.refl h.rest, fun j hj => absurd hj (by omega)⟩ k (fun i x y _ ⟨hx, hx2, hx3⟩ hy => by
    have hrx : r < x.t.length := Nat.lt_of_lt_of_le hr hx2.n
    unfold relS at hy
    split at hy
    · rename_i hl
      obtain ⟨a, b⟩ := fill_good hx hrx hl (getD_all hs LOk.nil i) hy
      refine ⟨a, hx2.trans h.rest hx.rest b, fun j hj hjl => ?_⟩
      by_cases e : j = i
      · subst e
        exact fill_closed hx hrx hl (hs j hjl) hy
      · exact (hx3 j (by omega) hjl).ext hx.rest b hrx (hs j hjl)
    · rename_i hl
      cases hy
      refine ⟨hx, hx2, fun j hj hjl => ?_⟩
      have h1 := hx.rest.inv.rle r hrx
      have hC' := RC.ext h.rest hx2 hs (by omega) hC
      exact clo_rp hx.rest.inv hrx (hC' (x.rp r) (by omega) (by omega) j hjl)) s' e
theorem row_closed (hs : ∀ j, j < rels.length → LOk g (rels.getD j [])) {r : Nat} (h : Good g lim s) (hr : r < s.t.length) (hC : RC rels s r) {s' : St} (e : rowS (2 * g) lim rels r s = some s') : RC rels s' (r + 1) := by
  unfold rowS at e
  cases hx : optTo (relS (2 * g) lim rels r) rels.length s with
  | none => rw [hx] at e; cases e
  | some x =>
    rw [hx] at e
    obtain ⟨a, b, c⟩ := rel_closed hs h hr hC hx
    have hrx : r < x.t.length := Nat.lt_of_lt_of_le hr b.n
    obtain ⟨a2, b2, -, -⟩ := col_good a hrx (Nat.le_refl _) e
    have hE := b.trans h.rest a.rest b2
    intro y hy hyn i hi
    rcases Nat.lt_or_ge y r with h1 | h1
    · exact RC.ext h.rest hE hs (by omega) hC y h1 hyn i hi
    · obtain rfl : y = r := by omega
      exact (c i hi hi).ext a.rest b2 hrx (hs i hi)
theorem sub_closed (hg : 1 ≤ lim) (hs : ∀ j, j < sub.length → LOk g (sub.getD j [])) {s' : St} {k : Nat} (e : optTo (subS (2 * g) lim sub) k (startS (2 * g)) = some s') :
    Good g lim s' ∧ ∀ j, j < k → j < sub.length → Clo s' 0 (sub.getD j []) :=
  optTo_inv (p := fun k s => Good g lim s ∧ ∀ j, j < k → j < sub.length → Clo s 0 (sub.getD j [])) ⟨start_good hg, fun j hj => absurd hj (by omega)⟩ k (fun i x y _ ⟨hx, hx2⟩ hy => by
    obtain ⟨a, b⟩ := fill_good hx hx.n1 (rp_zero hx.rest hx.n1) (getD_all hs LOk.nil i) hy
    refine ⟨a, fun j hj hjl => ?_⟩
    by_cases e : j = i
    · subst e
      exact fill_closed hx hx.n1 (rp_zero hx.rest hx.n1) (hs j hjl) hy
    · exact (hx2 j (by omega) hjl).ext hx.rest b hx.n1 (hs j hjl)) s' e
theorem run_closed (hg : 1 ≤ lim) (hr : ∀ j, j < rels.length → LOk g (rels.getD j [])) (hs : ∀ j, j < sub.length → LOk g (sub.getD j [])) {s' : St} (e : runS (2 * g) lim rels sub = some s') :
    RC rels s' s'.t.length ∧ ∀ j, j < sub.length → Clo s' 0 (sub.getD j []) := by
  unfold runS at e
  cases hx : optTo (subS (2 * g) lim sub) sub.length (startS (2 * g)) with
  | none => rw [hx] at e; cases e
  | some x =>
    rw [hx] at e
    obtain ⟨hG, hsub⟩ := sub_closed hg hs hx
    obtain ⟨a, b, c⟩ := optTo_inv (p := fun k y => Good g lim y ∧ (RC rels y k ∧ Comp g y k) ∧ ∀ j, j < sub.length → Clo y 0 (sub.getD j [])) ⟨hG, ⟨fun x hx => absurd hx (by omega), fun x hx => absurd hx (by omega)⟩, fun j hj => hsub j hj hj⟩ lim (fun r x y _ ⟨hx1, ⟨hx2, hx3⟩, hx4⟩ hy => by
      unfold rowsS at hy
      split at hy
      · rename_i hlt
        obtain ⟨a, b, c⟩ := row_good hr hx1 hlt hx3 hy
        exact ⟨a, ⟨row_closed hr hx1 hlt hx2 hy, c⟩, fun j hj => (hx4 j hj).ext hx1.rest b hx1.n1 (hs j hj)⟩
      · rename_i hlt
        cases hy
        exact ⟨hx1, ⟨fun z _ hzn => hx2 z (by omega) hzn, fun z _ hzn c hcc => hx3 z (by omega) hzn c hcc⟩, hx4⟩) s' e
    exact ⟨fun z hz hzn => b.1 z (by have := a.n2; omega) hzn, c⟩
theorem tab_edge (h : Rest g s) {x y c : Nat} (hx : x < s.t.length) (hc : c < 2 * g) (he : Edge s.t x c y) : num s x < (tabS s).length ∧ Edge (tabS s) (num s x) c (num s y) := by
  obtain ⟨h1, h2, h3⟩ := h.live hx hc he
  obtain ⟨k1, k2⟩ := num_lt (n := s.t.length) hx h1
  refine ⟨by rw [length_tab]; exact k1, ?_⟩
  unfold Edge
  have h4 : (liv s).getD (num s x) 0 = x := k2
  rw [at_tab k1 (by rw [h4, h.inv.len x hx]; exact hc), h4, show s.t.at x c = (y : Int) from he, Int.toNat_natCast]
theorem tab_way (h : Rest g s) : ∀ {w : W} {x y : Nat}, LOk g w → x < s.t.length → Way s.t x w y → Way (tabS s) (num s x) w (num s y) := by
  intro w
  induction w with
  | nil => intro x y _ _ e; have e : x = y := e; rw [e]; exact rfl
  | cons l w ih =>
    rintro x y hw hx ⟨z, h1, h2⟩
    have hz := h1.lt h.inv hx (col_ltL hw.cons.1)
    exact ⟨_, (tab_edge h hx (col_ltL hw.cons.1) h1).2, ih hw.cons.2 hz h2⟩
theorem tab_closed (h : Rest g s) (hr : ∀ j, j < rels.length → LOk g (rels.getD j [])) (hC : RC rels s s.t.length) : ∀ i, i < (tabS s).length → ∀ j, j < rels.length → Way (tabS s) i (rels.getD j []) i := fun i hi j hj => by
  rw [length_tab] at hi
  obtain ⟨h1, h2, h3⟩ := livTo_at (s := s) s.t.length i hi
  have := hC _ h1 h1 j hj
  unfold Clo at this
  rw [h2] at this
  have h4 := tab_way h (hr j hj) h1 this
  rwa [h3] at h4
theorem tab_closed0 (h : Rest g s) (hn : 1 ≤ s.t.length) {w : W} (hw : LOk g w) (hC : Clo s 0 w) : Way (tabS s) 0 w 0 := by
  unfold Clo at hC
  rw [rp_zero h hn] at hC
  exact tab_way h hw hn hC
end
end Go.Proofs.Ct
