/- cayleyref17.Same; the walk of RewritePresents; A region that draws its order, with guarded operations: each operation is shown once; A region that draws its order, whatever it holds: each operation is shown once; One operation at a time: what it runs to; (*coset.state).find; (*coset.state).alive, join, merge; (*coset.state).merge; The reference's state of an enumeration in memory; (*State).Rep. -/
import Derived.Test.YtcfighimnkfmeaaRbCS13
import Derived.Deep.MidRow
import Derived.Deep.RegionHeld3
import Derived.Test.YtcfighimnkfmeaaRbCS5
import Derived.BigRegion
import Derived.WalkMore
import Derived.Deep.CutBlock
import Derived.Deep.LoopGhost
namespace Go.Proofs
open Go.RowKit Go.Shelf Go.Proofs.Ct Go.Maps
theorem quiet_add_ex {P : Program} {f : FuncId} {args : Array Value} {w : World} {a n : Nat} {v : Value}
    (h : Calls P f args (w.drewN (a + n)) fun e w' => e = .returned v ∧ ∃ q, w' = (w.drewN (a + n)).drewN q) :
    Calls P f args (w.drewN (a + n)) fun e w'' => e = .returned v ∧ ∃ m, w'' = w.drewN (a + m) :=
  h.mono fun _ _ ⟨he, q, hm⟩ => ⟨he, n + q, by rw [hm, World.drewN_drewN, Nat.add_assoc]⟩
theorem wpList_valG {ops : Array Oper} {rest : List Oper} {o : Oper} {a : Act} {w w' : World} {Q : Exit → Act → World → Prop} {v : Value} (hg : Region.wanted o (yielded ops a.tmps) = true) (hrun : (execOp a.eval o).run Try.prog w = .ok (.value v) w') (h : wpList Try.prog ops Q rest (a.put o.dst v) w') : wpList Try.prog ops Q (o :: rest) a w :=
  BigFrame.wpList_want hg fun _ hK => by
    unfold Oper.wp
    rw [hrun]
    exact hK _ _ h
set_option maxRecDepth 100000 in
set_option maxHeartbeats 1000000 in
theorem equal80_any (w : World) (u v : Value) (x y : List Int) (hu : IntsAt w u x) (hv : IntsAt w v y) : Calls Try.prog 80 #[u, v] w fun e w' => e = .returned (.bool (decide (x = y))) ∧ ∃ q, w' = w.drewN q := by
  obtain ⟨A, c, rfl, h1, h2, h3⟩ := hu.open_
  obtain ⟨B, d, rfl, k1, k2, k3⟩ := hv.open_
  have HA := Lib.hid h3
  have HB := Lib.hid k3
  have hx0 : (0 : Int) ≤ (x.length : Int) := Int.natCast_nonneg _
  clear hu hv h3 k3
  by_cases hl : x.length = y.length
  · have d1 : ((x.length : Int) != (y.length : Int)) = false := by simp; omega
    have d2 : (x.length != y.length) = false := by simp; omega
    have HL := Lib.hid hl
    clear hl
    go_enter Try.func80, Try.ntmps80
    go_wp2_with fail
    go_loopw [5] (fun i wr => ∃ k : Nat, k ≤ x.length ∧ i = .int .i64 k ∧ Hid (∀ j, j < k → x.getD j 0 = y.getD j 0) ∧ ∃ q, wr = w.drewN q) (fun i _ => x.length - (intOf i).toNat)
    case atStart => exact ⟨0, Nat.zero_le _, rfl, Lib.hid fun j hj => absurd hj (by omega), 0, rfl⟩
    case round =>
      obtain ⟨k, hk, rfl, HZ, q, rfl⟩ := hrel
      have hk0 : (0 : Int) ≤ (k : Int) := Int.natCast_nonneg _
      by_cases hlt : k < x.length
      · obtain ⟨ba, oa, rfl, hca⟩ := HA.out (by omega)
        obtain ⟨bb, ob, rfl, hcb⟩ := HB.out (by rw [← HL.out]; omega)
        have hx1 := hca k hlt
        have hx2 := hcb k (by rw [← HL.out]; omega)
        have hka : (k : Int) < (x.length : Int) := by omega
        have hkb : (k : Int) < (y.length : Int) := by rw [← HL.out]; omega
        have HK : Hid (x.getD k 0 = y.getD k 0 → ∀ j, j < k + 1 → x.getD j 0 = y.getD j 0) := Lib.hid fun h => all_succ HZ.out h
        have HN : Hid (x.getD k 0 ≠ y.getD k 0 → x ≠ y) := Lib.hid fun h => getD_ne h
        clear hca hcb
        generalize x.getD k 0 = s at *
        generalize y.getD k 0 = t at *
        by_cases hst : s = t
        · have d5 : (s != t) = false := by simpa using hst
          have HK2 := Lib.hid (HK.out hst)
          clear hst HK HN
          go_wp2_with fail
          go_quiet (fail)
          go_wp2_with fail
          go_roundw
          case rel => exact ⟨k + 1, by omega, by go_num, HK2, (by first | exact ⟨_, rfl⟩ | exact ex_drewN)⟩
          case measure => simp [intOf]; omega
        · have d5 : (s != t) = true := by simpa using hst
          have HD : Hid (decide (x = y) = false) := Lib.hid (decide_eq_false (HN.out hst))
          clear hst HK HN
          go_wp2_with fail
          go_quiet (fail)
          go_wp2_with fail
          go_ret
          exact ⟨ret_bool HD.out.symm, (by first | exact ⟨_, rfl⟩ | exact ex_drewN)⟩
      · obtain rfl : k = x.length := by omega
        have HD : Hid (decide (x = y) = true) := Lib.hid (decide_eq_true (getD_ext HL.out HZ.out))
        go_wp2_with fail
        go_ret
        exact ⟨ret_bool HD.out.symm, (by first | exact ⟨_, rfl⟩ | exact ex_drewN)⟩
  · have d1 : ((x.length : Int) != (y.length : Int)) = true := by simp; omega
    have d2 : (x.length != y.length) = true := by simp; omega
    have HD : Hid (decide (x = y) = false) := Lib.hid (decide_eq_false fun h => hl (by rw [h]))
    clear hl
    go_enter Try.func80, Try.ntmps80
    go_wp2_with fail
    go_ret
    exact ⟨ret_bool HD.out.symm, 0, rfl⟩
set_option maxRecDepth 100000 in
set_option maxHeartbeats 2000000 in
theorem same26_any (w : World) (va vb : Value) (g1 g2 : Int) (A B : List (List Int)) (ha : Tab w va A) (hb : Tab w vb B) :
    Calls Try.prog 26 #[.agg #[.int .i64 g1, va], .agg #[.int .i64 g2, vb]] w fun e w' => e = .returned (.bool (decide (g1 = g2 ∧ A = B))) ∧ Below w.heap.size w w' := by
  obtain ⟨A0, ca, rfl, ha1, ha2, ha3⟩ := ha.open_
  obtain ⟨B0, cb, rfl, hb1, hb2, hb3⟩ := hb.open_
  have hbel : Below w.heap.size w ((w.alloc (.cells #[.int .i64 g1, .slice A0 A.length ca] 40)).alloc (.cells #[.int .i64 g2, .slice B0 B.length cb] 40)) := ((Below.refl _ _).alloc (Nat.le_refl _) _).alloc (by simp) _
  have hn1 : ((w.alloc (.cells #[.int .i64 g1, .slice A0 A.length ca] 40)).alloc (.cells #[.int .i64 g2, .slice B0 B.length cb] 40)).heap[w.heap.size]? = some (.cells #[.int .i64 g1, .slice A0 A.length ca] 40 (0, 0)) := (Below.heap_alloc (w.alloc _) _ w.heap.size (by simp)).trans (heap_alloc_new w _)
  have hn2 : ((w.alloc (.cells #[.int .i64 g1, .slice A0 A.length ca] 40)).alloc (.cells #[.int .i64 g2, .slice B0 B.length cb] 40)).heap[w.heap.size + 1]? = some (.cells #[.int .i64 g2, .slice B0 B.length cb] 40 (0, 0)) := by
    have := heap_alloc_new (w.alloc (.cells #[.int .i64 g1, .slice A0 A.length ca] 40)) (.cells #[.int .i64 g2, .slice B0 B.length cb] 40); rwa [World.size_alloc] at this
  obtain ⟨p0, p1⟩ := cell_of2 hn1
  obtain ⟨q0, q1⟩ := cell_of2 hn2
  have HA := Lib.hid ha3
  have HB := Lib.hid hb3
  have HBE := Lib.hid hbel
  have hA0 : (0 : Int) ≤ (A.length : Int) := Int.natCast_nonneg _
  clear ha hb ha3 hb3 hbel hn1 hn2
  by_cases hg : g1 = g2
  · have e1 : (g1 != g2) = false := by simpa using hg
    by_cases hl : A.length = B.length
    · have d1 : ((A.length : Int) != (B.length : Int)) = false := by simp; omega
      have d2 : (A.length != B.length) = false := by simp; omega
      have HL := Lib.hid hl
      have HG := Lib.hid hg
      clear hl hg
      go_enter Try.func26, Try.ntmps26
      go_wp2_with fail
      generalize hw0 : (w.alloc (.cells #[.int .i64 g1, .slice A0 A.length ca] 40)).alloc (.cells #[.int .i64 g2, .slice B0 B.length cb] 40) = w0 at *
      clear hw0
      go_loopw [5] (fun i wr => ∃ k : Nat, k ≤ A.length ∧ i = .int .i64 k ∧ Hid (∀ j, j < k → A.getD j [] = B.getD j []) ∧ ∃ q, wr = w0.drewN q) (fun i _ => A.length - (intOf i).toNat)
      case atStart => exact ⟨0, Nat.zero_le _, rfl, Lib.hid fun j hj => absurd hj (by omega), 0, rfl⟩
      case round =>
        obtain ⟨k, hk, rfl, HZ, q, rfl⟩ := hrel
        by_cases hlt : k < A.length
        · obtain ⟨b1, o1, rfl, hc1⟩ := HA.out (by omega)
          obtain ⟨b2, o2, rfl, hc2⟩ := HB.out (by rw [← HL.out]; omega)
          obtain ⟨u1, hu1, hr1⟩ := hc1 k hlt
          obtain ⟨u2, hu2, hr2⟩ := hc2 k (by rw [← HL.out]; omega)
          have hz1 := (HBE.out.cell (p := ⟨b1, o1 + k, none⟩) (World.block_lt_of_cell? w _ hu1)).trans hu1
          have hz2 := (HBE.out.cell (p := ⟨b2, o2 + k, none⟩) (World.block_lt_of_cell? w _ hu2)).trans hu2
          have hi1 := hr1.below HBE.out
          have hi2 := hr2.below HBE.out
          have hk0 : (0 : Int) ≤ (k : Int) := Int.natCast_nonneg _
          have hkb : (k : Int) < (B.length : Int) := by rw [← HL.out]; omega
          have hka : (k : Int) < (A.length : Int) := by omega
          have HEQ : Hid (∀ n, Calls Try.prog 80 #[u1, u2] (w0.drewN n) fun e w' => e = .returned (.bool (decide (A.getD k [] = B.getD k []))) ∧ ∃ q, w' = (w0.drewN n).drewN q) := Lib.hid fun n => equal80_any _ _ _ _ _ (hi1.drewN n) (hi2.drewN n)
          have HN : Hid (A.getD k [] ≠ B.getD k [] → A ≠ B) := Lib.hid (fun h => getD_ne (A := A) (B := B) (d := []) (k := k) h)
          have HK : Hid (A.getD k [] = B.getD k [] → ∀ j, j < k + 1 → A.getD j [] = B.getD j []) := Lib.hid (fun h => all_succ HZ.out h)
          obtain ⟨A3, c3, rfl, -, -, -⟩ := hr1.open_
          obtain ⟨A4, c4, rfl, -, -, -⟩ := hr2.open_
          clear hc1 hc2 hr1 hr2 hu1 hu2 hi1 hi2
          generalize A.getD k [] = x at *
          generalize B.getD k [] = y at *
          by_cases hxy : x = y
          · have HE : Hid (decide (x = y) = true) := Lib.hid (decide_eq_true hxy)
            have HK2 := Lib.hid (HK.out hxy)
            rw [HE.out] at HEQ
            clear hxy HN HK
            go_wp2_with fail
            go_quiet ((go_at_call 80; exact quiet_add_ex (HEQ.out _)))
            go_wp2_with fail
            go_roundw
            case rel => exact ⟨k + 1, by omega, by go_num, HK2, (by first | exact ⟨_, rfl⟩ | exact ex_drewN)⟩
            case measure => simp [intOf]; omega
          · have HE : Hid (decide (x = y) = false) := Lib.hid (decide_eq_false hxy)
            have HD : Hid (decide (g1 = g2 ∧ A = B) = false) := Lib.hid (decide_eq_false fun h => HN.out hxy h.2)
            rw [HE.out] at HEQ
            clear hxy HN HK
            go_wp2_with fail
            go_quiet ((go_at_call 80; exact quiet_add_ex (HEQ.out _)))
            go_wp2_with fail
            go_ret
            exact ⟨ret_bool HD.out.symm, below_drewN (below_drewN HBE.out _) _⟩
        · obtain rfl : k = A.length := by omega
          have HD : Hid (decide (g1 = g2 ∧ A = B) = true) := Lib.hid (decide_eq_true ⟨HG.out, getD_ext HL.out HZ.out⟩)
          go_wp2_with fail
          go_ret
          exact ⟨ret_bool HD.out.symm, below_drewN HBE.out _⟩
    · have d1 : ((A.length : Int) != (B.length : Int)) = true := by simp; omega
      have d2 : (A.length != B.length) = true := by simp; omega
      have HD : Hid (decide (g1 = g2 ∧ A = B) = false) := Lib.hid (decide_eq_false fun h => hl (by rw [h.2]))
      clear hl hg
      go_enter Try.func26, Try.ntmps26
      go_wp2_with fail
      go_ret
      exact ⟨ret_bool HD.out.symm, HBE.out⟩
  · have e1 : (g1 != g2) = true := by simpa using hg
    have HD : Hid (decide (g1 = g2 ∧ A = B) = false) := Lib.hid (decide_eq_false fun h => hg h.1)
    clear hg
    go_enter Try.func26, Try.ntmps26
    go_wp2_with fail
    go_ret
    exact ⟨ret_bool HD.out.symm, HBE.out⟩
end Go.Proofs
namespace Go.Proofs
open Go.RowKit Go.Shelf Go.Proofs.Ct Go.Maps
/-- The frame but for the slots dm 0, .., dm (N-1). -/
structure SameM (a0 : Act) (dm : Nat → Nat) (N : Nat) (a : Act) : Prop where
  size : a.tmps.size = a0.tmps.size
  defers : a.defers = a0.defers
  out : ∀ t, (∀ i, i < N → dm i ≠ t) → a.tmps.getD t undef = a0.tmps.getD t undef
theorem SameM.refl (a0 : Act) (dm : Nat → Nat) (N : Nat) : SameM a0 dm N a0 := ⟨rfl, rfl, fun _ _ => rfl⟩
theorem SameM.put {a0 a : Act} {dm : Nat → Nat} {N i : Nat} (h : SameM a0 dm N a) (hi : i < N) (v : Value) : SameM a0 dm N (a.put (some (dm i)) v) :=
  ⟨by simpa [Act.put] using h.size, h.defers, fun t ht => by rw [← h.out t ht, put_getD_ne _ _ _ _ (ht i hi)]⟩
/-- Every edge leads back; each of the first N operations has a successor up to N. -/
structure Tailed1 (ops : Array Oper) (N : Nat) : Prop where
  size : ops.size = N + 1
  lex : ∀ (i : Nat) (o : Oper), ops[i]? = some o → ∀ e ∈ o.after.toList, e.on < i
  succ : ∀ i, i < N → ∃ (j : Nat) (o : Oper), i < j ∧ j ≤ N ∧ ops[j]? = some o ∧ ∃ e ∈ o.after.toList, e.on = i ∧ Region.binds .any e = true
def tailed1B (ops : Array Oper) (N : Nat) : Bool :=
  (ops.size == N + 1) && (List.range ops.size).all (fun i => match ops[i]? with | some o => o.after.toList.all fun e => decide (e.on < i) | none => true) &&
  (List.range N).all (fun i => (List.range (N + 1)).any fun j => decide (i < j) && (match ops[j]? with | some o => o.after.toList.any fun e => (e.on == i) && Region.binds .any e | none => false))
theorem tailed1_of {ops : Array Oper} {N : Nat} (h : tailed1B ops N = true) : Tailed1 ops N := by
  unfold tailed1B at h
  simp only [Bool.and_eq_true] at h
  obtain ⟨⟨h1, h2⟩, h3⟩ := h
  refine ⟨by simpa using h1, fun i o ho e he => ?_, fun i hi => ?_⟩
  · rw [List.all_eq_true] at h2
    have hi : i < ops.size := (Array.getElem?_eq_some_iff.1 ho).1
    have := h2 i (by simpa using hi)
    rw [ho] at this
    rw [List.all_eq_true] at this
    simpa using this e he
  · rw [List.all_eq_true] at h3
    have := h3 i (by simpa using hi)
    rw [List.any_eq_true] at this
    obtain ⟨j, hj, hjj⟩ := this
    rw [Bool.and_eq_true] at hjj
    obtain ⟨hij, hm⟩ := hjj
    cases ho : ops[j]? with
    | none => rw [ho] at hm; cases hm
    | some o =>
      rw [ho] at hm
      rw [List.any_eq_true] at hm
      obtain ⟨e, he, hee⟩ := hm
      rw [Bool.and_eq_true] at hee
      exact ⟨j, o, by simpa using hij, by simp at hj; omega, ho, e, he, by simpa using hee.1, hee.2⟩
section
variable {F : Fence} {n : Nat} {P : Program} {ops : Array Oper} {Q : Exit → Act → World → Prop}
theorem Tailed1.before {N : Nat} (ht : Tailed1 ops N) {listed : Array Bool} (hc : Closed ops listed) {o : Oper} (ho : ops[N]? = some o) (hp : ∀ e ∈ o.after.toList, Region.binds .any e = true → listed.getD e.on false = true) :
    ∀ k i, i < N → N - i ≤ k → listed.getD i false = true := by
  intro k
  induction k with
  | zero => intro i hi hk; omega
  | succ k ih =>
    intro i hi hk
    obtain ⟨j, oj, hij, hjN, hoj, e, he, rfl, hb⟩ := ht.succ i hi
    rcases Nat.lt_or_ge j N with h | h
    · exact hc j oj hoj (ih j h (by omega)) e he hb
    · have : j = N := by omega
      subst this
      rw [ho] at hoj
      cases hoj
      exact hp e he hb
theorem wpIn_region_g {id : Nat} {a0 : Act} {w : World} (hm : P.follows .mixedOrders = true) (dm : Nat → Nat) (N : Nat) (ht : Tailed1 ops N) (S : (Nat → Bool) → World → Prop) (Φ : Nat → Value → World → Prop) (G : Nat → World → World → Prop)
    (hdm : ∀ i j, i < N → j < N → dm i = dm j → i = j)
    (hΦ : ∀ i j v w w', i < N → j < N → i ≠ j → G i w w' → Φ j v w → Φ j v w')
    (hsz : ∀ i, i < N → dm i < a0.tmps.size) (h0 : S (fun _ => false) w.drew)
    (hop : ∀ (ls : Nat → Bool) (i : Nat) (o : Oper) (a : Act) (w : World), i < N → ops[i]? = some o → S ls w → ls i = false → SameM a0 dm N a → (∀ e ∈ o.after.toList, Region.binds .any e = true → Φ e.on (a.tmps.getD (dm e.on) undef) w) →
      wpOpIn F n P ops Q i (fun a' w' => ∃ v, a' = a.put (some (dm i)) v ∧ S (fun j => if i = j then true else ls j) w' ∧ G i w w' ∧ Φ i v w') a w)
    (hend : ∀ (ls : Nat → Bool) (a : Act) (w : World), S ls w → (∀ i, i < N → ls i = true) → SameM a0 dm N a → (∀ i, i < N → Φ i (a.tmps.getD (dm i) undef) w) →
      wpOpIn F n P ops Q N (fun a' w' => Q .normal a' w') a w) :
    (Code.region id ops true).wpIn F n P Q a0 w := by
  refine wpIn_region_any hm ?_
  have hsize := ht.size
  refine wpAnyIn_inv (fun listed a w => Closed ops listed ∧
      ((listed.getD N false = false ∧ S (fun j => listed.getD j false) w ∧ SameM a0 dm N a ∧ ∀ i, i < N → listed.getD i false = true → Φ i (a.tmps.getD (dm i) undef) w) ∨
       (listed.getD N false = true ∧ Q .normal a w))) ?_ ?_ ops.size _ a0 _ (by simp) ?_ ⟨fun i o ho h => ?_, .inl ⟨?_, by rw [show (fun j => (Array.replicate ops.size false).getD j false) = (fun _ => false) from funext fun j => by simp only [Array.getD_eq_getD_getElem?, Array.getElem?_replicate]; split <;> rfl]; exact h0, SameM.refl _ _ _, fun i hi h => ?_⟩⟩
  · rintro listed a w i hls ⟨hcl, hI⟩ hi
    obtain ⟨h1, h2, o, ho, hpre⟩ := ready_mem hi
    rw [getD_true_false (by omega)] at h2
    have hcl' : Closed ops (listed.setIfInBounds i true) := fun j oj hoj hl e he hb => by
      rw [getD_set_listed (by omega)] at hl ⊢
      by_cases eij : i = j
      · subst eij
        rw [ho] at hoj; cases hoj
        have := hpre e he hb
        split
        · rfl
        · exact this
      · rw [if_neg eij] at hl
        have := hcl j oj hoj hl e he hb
        split
        · rfl
        · exact this
    have hsetD : ∀ j, (listed.setIfInBounds i true).getD j false = if i = j then true else listed.getD j false := fun j => getD_set_listed (by omega)
    rcases hI with ⟨hN, hS, hsame, hsl⟩ | ⟨hN, hQ⟩
    · rcases Nat.lt_or_ge i N with hiN | hiN
      · have hwp := hop _ i o a w hiN ho hS h2 hsame (fun e he hb => by
          have hl := hpre e he hb
          have hlt := ht.lex i o ho e he
          exact hsl e.on (by omega) hl)
        refine wpOpIn_mono (fun a' w' h => ?_) hwp
        obtain ⟨v, rfl, hS', hG, hv⟩ := h
        refine ⟨hcl', .inl ⟨by rw [hsetD, if_neg (by omega)]; exact hN, by rw [show (fun j => (listed.setIfInBounds i true).getD j false) = (fun j => if i = j then true else listed.getD j false) from funext hsetD]; exact hS', hsame.put hiN v, fun j hj hl => ?_⟩⟩
        by_cases e : i = j
        · subst e
          rw [put_getD_same _ _ _ (by rw [hsame.size]; exact hsz i hj)]
          exact hv
        · rw [put_getD_ne _ _ _ _ (fun h => e (hdm i j hiN hj h))]
          rw [hsetD, if_neg e] at hl
          exact hΦ i j _ _ _ hiN hj e hG (hsl j hj hl)
      · have hi2 : i = N := by omega
        subst hi2
        have hall := ht.before hcl ho hpre
        refine wpOpIn_mono (fun a' w' h => ?_) (hend _ a w hS (fun j hj => hall _ j hj (Nat.le_refl _)) hsame (fun j hj => hsl j hj (hall _ j hj (Nat.le_refl _))))
        exact ⟨hcl', .inr ⟨by rw [hsetD, if_pos rfl], h⟩⟩
    · rcases Nat.lt_or_ge i N with hiN | hiN
      · obtain ⟨oN, hoN⟩ : ∃ o, ops[N]? = some o := ⟨ops[N]'(by omega), Array.getElem?_eq_getElem (by omega)⟩
        have := ht.before hcl hoN (hcl N oN hoN hN) _ i hiN (Nat.le_refl _)
        rw [h2] at this; cases this
      · have hi2 : i = N := by omega
        subst hi2
        rw [h2] at hN; cases hN
  · rintro listed a w hls ⟨hcl, hI⟩ hr
    have hready : ∀ i, i < ops.size → listed.getD i false = true := by
      intro i
      induction i using Nat.strongRecOn with
      | _ i ih =>
        intro hi
        rcases hl : listed.getD i false with _ | _
        · have hmem : i ∈ Region.ready .any ops listed := by
            simp only [Region.ready, List.mem_filter, List.mem_range, Bool.and_eq_true, Bool.not_eq_true']
            refine ⟨hi, by rw [getD_true_false (by omega)]; exact hl, ?_⟩
            rw [Array.getElem?_eq_getElem hi]
            simp only [Option.map_some, Option.getD_some]
            rw [Array.all_eq_true_iff_forall_mem]
            intro e he
            have hlt := ht.lex i _ (Array.getElem?_eq_getElem hi) e (by simpa using he)
            simp [ih e.on hlt (by omega)]
          rw [hr] at hmem; cases hmem
        · rfl
    rcases hI with ⟨hN, _⟩ | ⟨_, hQ⟩
    · rw [hready N (by omega)] at hN; cases hN
    · exact hQ
  · simp
  · have : (Array.replicate ops.size false).getD i false = false := by
      simp only [Array.getD_eq_getD_getElem?, Array.getElem?_replicate]; split <;> rfl
    rw [this] at h; cases h
  · simp only [Array.getD_eq_getD_getElem?, Array.getElem?_replicate]; split <;> rfl
  · have : (Array.replicate ops.size false).getD i false = false := by
      simp only [Array.getD_eq_getD_getElem?, Array.getElem?_replicate]; split <;> rfl
    rw [this] at h; cases h
end
section
variable {n : Nat} {ops : Array Oper} {Q : Exit → Act → World → Prop} {i : Nat} {o : Oper} {K : Act → World → Prop} {a : Act} {w : World}
theorem yielded_of {g t : Nat} {b : Bool} {og : Oper} (hg : ops[g]? = some og) (hd : og.dst = some t) (ht : t < a.tmps.size) (hv : a.tmps.getD t undef = .bool b) : yielded ops a.tmps g = some b := by
  have h1 : a.tmps[t]? = some (.bool b) := by
    rw [Array.getElem?_eq_getElem ht]
    rw [Array.getD_eq_getD_getElem?, Array.getElem?_eq_getElem ht] at hv
    simpa using hv
  unfold yielded
  simp [hg, hd, h1]
theorem wpOpIn_yes {g : Nat} {b : Bool} (ho : ops[i]? = some o) (hg : o.guard = some (g, b)) (hy : yielded ops a.tmps g = some b) (h : o.wpIn Fence.wide n Try.prog a w K Q) : wpOpIn Fence.wide n Try.prog ops Q i K a w := by
  unfold wpOpIn
  rw [ho]
  simp only [Region.wanted, hg, hy]
  rw [if_pos (by cases b <;> simp)]
  exact h
theorem r_pick {v : Value} (x y z : Operand) (b : Bool) (ho : o.op = .pick x y z) (hx : a.eval x = .bool b) (hv : (if b then a.eval y else a.eval z) = v) : (execOp a.eval o).run Try.prog w = .ok (.value v) w := by
  unfold execOp
  simp only [ho, hx]
  cases b <;> simp_all <;> rfl
end
theorem SameM.frame {a0 a : Act} {dm : Nat → Nat} {N : Nat} (h : SameM a0 dm N a) (n : Nat) (hn : a0.tmps.size = n) :
    a = { tmps := ((List.range n).map fun t => if (List.range N).any (fun i => dm i == t) then a.tmps.getD t undef else a0.tmps.getD t undef).toArray, defers := a0.defers } := by
  obtain ⟨t, d⟩ := a
  have hd := h.defers
  have hs := h.size
  have ho := h.out
  simp only at hd hs ho
  subst hd
  congr 1
  apply Array.ext'
  apply List.ext_getElem?
  intro i
  show t.toList[i]? = (List.map _ (List.range n))[i]?
  rw [List.getElem?_map]
  rcases Nat.lt_or_ge i n with hi | hi
  · rw [List.getElem?_range hi]
    have hti : i < t.size := by omega
    simp only [Option.map_some]
    have hg : t.toList[i]? = some (t.getD i undef) := by simp [Array.getD_eq_getD_getElem?, hti]
    rw [hg]
    refine congrArg some ?_
    by_cases hx : (List.range N).any (fun q => dm q == i) = true
    · rw [if_pos hx]
    · rw [if_neg hx]
      refine ho i (fun j hj e => hx ?_)
      rw [List.any_eq_true]
      exact ⟨j, by simpa using hj, by simpa using e⟩
  · rw [List.getElem?_eq_none (by simpa using (by omega : t.size ≤ i)), List.getElem?_eq_none (by simpa using hi)]
    rfl
theorem SameM.frameV {a0 a : Act} {dm : Nat → Nat} {N : Nat} (h : SameM a0 dm N a) (n : Nat) (hn : a0.tmps.size = n) :
    ∃ vs : Nat → Value, (∀ t, vs t = a.tmps.getD t undef) ∧ a = { tmps := ((List.range n).map fun t => if (List.range N).any (fun i => dm i == t) then vs t else a0.tmps.toList.getD t undef).toArray, defers := a0.defers } := by
  refine ⟨fun t => a.tmps.getD t undef, fun _ => rfl, (h.frame n hn).trans ?_⟩
  have : ∀ t, a0.tmps.getD t undef = a0.tmps.toList.getD t undef := fun t => by simp [Array.getD_eq_getD_getElem?, List.getD_eq_getElem?_getD]
  simp only [this]
section
variable {o : Oper} {a : Act} {w w' : World} {n : Nat} {next : Act → World → Prop} {Q : Exit → Act → World → Prop} {v : Value}
theorem wpW_val (hrun : (execOp a.eval o).run Try.prog w = .ok (.value v) w') (h : next (a.put o.dst v) w') : o.wpIn Fence.wide n Try.prog a w next Q :=
  ⟨fun _ _ => trivial, by rw [Fence.wide_round, Oper.semAt_none, hrun]; exact h⟩
theorem wpW_call {f : FuncId} {args : Array Value} {R : Value → World → Prop} (hrun : (execOp a.eval o).run Try.prog w = .ok (.enter f args) w')
    (hc : Calls Try.prog f args w' fun e w'' => ∃ v, e = .returned v ∧ R v w'') (h : ∀ v w'', R v w'' → next (a.put o.dst v) w'') : o.wpIn Fence.wide n Try.prog a w next Q :=
  ⟨fun _ _ => trivial, by
    rw [Fence.wide_round, Oper.semAt_none, hrun]
    refine ⟨fun hh => by simp [Fence.wide] at hh, callsIn_wide.2 (hc.mono ?_)⟩
    rintro e w'' ⟨v, rfl, hR⟩
    exact h v w'' hR⟩
end
end Go.Proofs
namespace Go.Proofs
open Go.RowKit Go.Shelf Go.Proofs.Ct Go.Maps
/-- The frame: slots whose operations are not listed are as they were. -/
structure Part (a0 : Act) (dm : Nat → Option Tmp) (N : Nat) (ls : Nat → Bool) (a : Act) : Prop where
  size : a.tmps.size = a0.tmps.size
  defers : a.defers = a0.defers
  out : ∀ t, (∀ i, i < N → ls i = true → dm i ≠ some t) → a.tmps.getD t undef = a0.tmps.getD t undef
theorem Part.put {a0 a : Act} {dm : Nat → Option Tmp} {N i : Nat} {ls : Nat → Bool} (h : Part a0 dm N ls a) (hi : i < N) (v : Value) : Part a0 dm N (fun j => if i = j then true else ls j) (a.put (dm i) v) := by
  refine ⟨?_, ?_, fun t ht => ?_⟩
  · cases hd : dm i with
    | none => exact h.size
    | some t => simpa [Act.put] using h.size
  · cases hd : dm i with
    | none => exact h.defers
    | some t => exact h.defers
  · have h1 : ∀ j, j < N → ls j = true → dm j ≠ some t := fun j hj hl => ht j hj (by simp [hl])
    have h2 := ht i hi (by rw [if_pos rfl])
    rw [← h.out t h1]
    cases hd : dm i with
    | none => rfl
    | some t' => exact put_getD_ne _ _ _ _ (fun e => h2 (by rw [hd, e]))
def slotv (a : Act) : Option Tmp → Value
  | some t => a.tmps.getD t undef
  | none => undef
def lexB (ops : Array Oper) : Bool := (List.range ops.size).all fun i => match ops[i]? with | some o => o.after.toList.all fun e => decide (e.on < i) || !Region.binds .any e | none => true
theorem lex_of {ops : Array Oper} (h : lexB ops = true) : ∀ (i : Nat) (o : Oper), ops[i]? = some o → ∀ e ∈ o.after.toList, Region.binds .any e = true → e.on < i := fun i o ho e he hb => by
  unfold lexB at h
  rw [List.all_eq_true] at h
  have hi : i < ops.size := (Array.getElem?_eq_some_iff.1 ho).1
  have := h i (by simpa using hi)
  rw [ho] at this
  rw [List.all_eq_true] at this
  have h2 := this e he
  rw [hb] at h2
  simpa using h2
section
variable {F : Fence} {n : Nat} {P : Program} {ops : Array Oper} {Q : Exit → Act → World → Prop}
theorem wpIn_region_all {id : Nat} {a0 : Act} {w : World} (hm : P.follows .mixedOrders = true) (N : Nat) (hN : ops.size = N) (dm : Nat → Option Tmp) (hlex : ∀ (i : Nat) (o : Oper), ops[i]? = some o → ∀ e ∈ o.after.toList, Region.binds .any e = true → e.on < i)
    (S : (Nat → Bool) → World → Prop) (Φ : Nat → Value → World → Prop) (G : Nat → World → World → Prop)
    (hdm : ∀ i j t, i < N → j < N → dm i = some t → dm j = some t → i = j)
    (hΦ : ∀ i j v w w', i < N → j < N → i ≠ j → G i w w' → Φ j v w → Φ j v w')
    (hsz : ∀ i t, i < N → dm i = some t → t < a0.tmps.size) (h0 : S (fun _ => false) w.drew)
    (hop : ∀ (ls : Nat → Bool) (i : Nat) (o : Oper) (a : Act) (w : World), i < N → ops[i]? = some o → S ls w → ls i = false → (∀ (j : Nat) (oj : Oper), ops[j]? = some oj → ls j = true → ∀ e ∈ oj.after.toList, Region.binds .any e = true → ls e.on = true) → Part a0 dm N ls a →
      (∀ e ∈ o.after.toList, Region.binds .any e = true → ls e.on = true ∧ Φ e.on (slotv a (dm e.on)) w) →
      wpOpIn F n P ops Q i (fun a' w' => ∃ v, a' = a.put (dm i) v ∧ S (fun j => if i = j then true else ls j) w' ∧ G i w w' ∧ (dm i = none → v = undef) ∧ Φ i v w') a w)
    (hend : ∀ (ls : Nat → Bool) (a : Act) (w : World), (∀ i, i < N → ls i = true) → S ls w → Part a0 dm N ls a → (∀ i, i < N → Φ i (slotv a (dm i)) w) → Q .normal a w) :
    (Code.region id ops true).wpIn F n P Q a0 w := by
  subst hN
  refine wpIn_region_any hm ?_
  refine wpAnyIn_inv (fun listed a w => Closed ops listed ∧ S (fun j => listed.getD j false) w ∧ Part a0 dm ops.size (fun j => listed.getD j false) a ∧ ∀ i, i < ops.size → listed.getD i false = true → Φ i (slotv a (dm i)) w) ?_ ?_ ops.size _ a0 _ (by simp) ?_ ⟨fun i o ho h => ?_, ?_, ⟨rfl, rfl, fun _ _ => rfl⟩, fun i hi h => ?_⟩
  · rintro listed a w i hls ⟨hcl, hS, hP, hsl⟩ hi
    obtain ⟨h1, h2, o, ho, hpre⟩ := ready_mem hi
    rw [getD_true_false (by omega)] at h2
    have hsetD : ∀ j, (listed.setIfInBounds i true).getD j false = if i = j then true else listed.getD j false := fun j => getD_set_listed (by omega)
    have hcl' : Closed ops (listed.setIfInBounds i true) := fun j oj hoj hl e he hb => by
      rw [hsetD] at hl ⊢
      by_cases eij : i = j
      · subst eij
        rw [ho] at hoj; cases hoj
        have := hpre e he hb
        split
        · rfl
        · exact this
      · rw [if_neg eij] at hl
        have := hcl j oj hoj hl e he hb
        split
        · rfl
        · exact this
    have hwp := hop _ i o a w h1 ho hS h2 (fun j oj hoj hl => hcl j oj hoj hl) hP (fun e he hb => ⟨hpre e he hb, hsl e.on (by have := hlex i o ho e he hb; omega) (hpre e he hb)⟩)
    refine wpOpIn_mono (fun a' w' h => ?_) hwp
    obtain ⟨v, rfl, hS', hG, hvn, hv⟩ := h
    rw [show (fun j => if i = j then true else listed.getD j false) = (fun j => (listed.setIfInBounds i true).getD j false) from (funext hsetD).symm] at hS'
    have hP' := hP.put h1 v
    rw [show (fun j => if i = j then true else listed.getD j false) = (fun j => (listed.setIfInBounds i true).getD j false) from (funext hsetD).symm] at hP'
    refine ⟨hcl', hS', hP', fun j hj hl => ?_⟩
    by_cases e : i = j
    · subst e
      have : slotv (a.put (dm i) v) (dm i) = v := by
        cases hdi : dm i with
        | none => rw [hvn hdi]; rfl
        | some t => exact put_getD_same _ _ _ (by rw [hP.size]; exact hsz i t h1 hdi)
      rw [this]
      exact hv
    · rw [hsetD, if_neg e] at hl
      have := hΦ i j _ _ _ h1 hj e hG (hsl j hj hl)
      have hv' : slotv (a.put (dm i) v) (dm j) = slotv a (dm j) := by
        cases hdj : dm j with
        | none => rfl
        | some t =>
          cases hdi : dm i with
          | none => rfl
          | some t' => exact put_getD_ne _ _ _ _ (fun e' => e (hdm i j t h1 hj (by rw [hdi, e']) hdj))
      rw [hv']
      exact this
  · rintro listed a w hls ⟨hcl, hS, hP, hsl⟩ hr
    have hready : ∀ i, i < ops.size → listed.getD i false = true := by
      intro i
      induction i using Nat.strongRecOn with
      | _ i ih =>
        intro hi
        rcases hl : listed.getD i false with _ | _
        · have hmem : i ∈ Region.ready .any ops listed := by
            simp only [Region.ready, List.mem_filter, List.mem_range, Bool.and_eq_true, Bool.not_eq_true']
            refine ⟨hi, by rw [getD_true_false (by omega)]; exact hl, ?_⟩
            rw [Array.getElem?_eq_getElem hi]
            simp only [Option.map_some, Option.getD_some]
            rw [Array.all_eq_true_iff_forall_mem]
            intro e he
            by_cases hb : Region.binds .any e = true
            · have hlt := hlex i _ (Array.getElem?_eq_getElem hi) e (by simpa using he) hb
              simp [ih e.on hlt (by omega)]
            · simp [hb]
          rw [hr] at hmem; cases hmem
        · rfl
    exact hend _ a w hready hS hP (fun i hi => hsl i hi (hready i hi))
  · simp
  · have : (Array.replicate ops.size false).getD i false = false := by
      simp only [Array.getD_eq_getD_getElem?, Array.getElem?_replicate]; split <;> rfl
    rw [this] at h; cases h
  · rw [show (fun j => (Array.replicate ops.size false).getD j false) = (fun _ => false) from funext fun j => by simp only [Array.getD_eq_getD_getElem?, Array.getElem?_replicate]; split <;> rfl]
    exact h0
  · have : (Array.replicate ops.size false).getD i false = false := by
      simp only [Array.getD_eq_getD_getElem?, Array.getElem?_replicate]; split <;> rfl
    rw [this] at h; cases h
end
theorem not_yet {ops : Array Oper} {ls : Nat → Bool} (hcl : ∀ (j : Nat) (oj : Oper), ops[j]? = some oj → ls j = true → ∀ e ∈ oj.after.toList, Region.binds .any e = true → ls e.on = true) (j : Nat) {oj : Oper} (hoj : ops[j]? = some oj) (e : Edge) (he : e ∈ oj.after.toList) (hb : Region.binds .any e = true) (h : ls e.on = false) : ls j = false := by
  cases hj : ls j with
  | false => rfl
  | true => rw [hcl j oj hoj hj e he hb] at h; cases h
theorem dm_out {dm : Nat → Option Tmp} {N t : Nat} {ls : Nat → Bool} (h : (List.range N).all (fun i => !(dm i == some t)) = true) : ∀ i, i < N → ls i = true → dm i ≠ some t := fun i hi _ e => by
  rw [List.all_eq_true] at h
  have := h i (by simpa using hi)
  rw [e] at this
  simp at this
theorem dm_inj {dm : Nat → Option Tmp} {N : Nat} (h : (List.range N).all (fun i => (List.range N).all fun j => (i == j) || (dm i == none) || !(dm i == dm j)) = true) : ∀ i j t, i < N → j < N → dm i = some t → dm j = some t → i = j := fun i j t hi hj e1 e2 => by
  rw [List.all_eq_true] at h
  have h1 := h i (by simpa using hi)
  rw [List.all_eq_true] at h1
  have h2 := h1 j (by simpa using hj)
  rw [e1, e2] at h2
  simpa using h2
theorem dm_lt {dm : Nat → Option Tmp} {N n : Nat} (h : (List.range N).all (fun i => match dm i with | some t => decide (t < n) | none => true) = true) : ∀ i t, i < N → dm i = some t → t < n := fun i t hi e => by
  rw [List.all_eq_true] at h
  have := h i (by simpa using hi)
  rw [e] at this
  simpa using this
/-- The frame behind the region, written out. -/
theorem Part.frame {a0 a : Act} {dm : Nat → Option Tmp} {N : Nat} {ls : Nat → Bool} (h : Part a0 dm N ls a) (n : Nat) (hn : a0.tmps.size = n) :
    ∃ vs : Nat → Value, (∀ t, vs t = a.tmps.getD t undef) ∧ a = { tmps := ((List.range n).map fun t => if (List.range N).any (fun i => dm i == some t) then vs t else a0.tmps.toList.getD t undef).toArray, defers := a0.defers } := by
  refine ⟨fun t => a.tmps.getD t undef, fun _ => rfl, ?_⟩
  obtain ⟨t, d⟩ := a
  have hd := h.defers
  have hs := h.size
  have ho := h.out
  simp only at hd hs ho
  subst hd
  congr 1
  apply Array.ext'
  apply List.ext_getElem?
  intro i
  rcases Nat.lt_or_ge i n with hi | hi
  · have hit : i < t.size := by omega
    have hg : t.toList[i]? = some (t.getD i undef) := by simp [Array.getD, hit]
    rw [hg]
    simp only [List.getElem?_map, List.getElem?_range hi, Option.map_some]
    congr 1
    by_cases hx : (List.range N).any (fun q => dm q == some i) = true
    · rw [if_pos hx]
    · rw [if_neg hx]
      rw [ho i (fun j hj _ e => hx ?_)]
      · simp [Array.getD_eq_getD_getElem?, List.getD_eq_getElem?_getD]
      · rw [List.any_eq_true]
        exact ⟨j, by simpa using hj, by simpa using e⟩
  · rw [List.getElem?_eq_none (by simpa using (by omega : t.size ≤ i)), List.getElem?_eq_none (by simpa using hi)]
end Go.Proofs
namespace Go.Proofs
open Go.RowKit Go.Shelf Go.Proofs.Ct Go.Maps
section
variable {o : Oper} {a : Act} {w w' : World} {n : Nat} {next : Act → World → Prop} {Q : Exit → Act → World → Prop} {v : Value}
theorem wpW_skip (hrun : (execOp a.eval o).run Try.prog w = .ok .skip w') (h : next (a.put o.dst undef) w') : o.wpIn Fence.wide n Try.prog a w next Q :=
  ⟨fun _ _ => trivial, by rw [Fence.wide_round, Oper.semAt_none, hrun]; exact h⟩
theorem r_nil (x : Operand) (ad : Addr) (ho : o.op = .nilCheck x) (hx : a.eval x = .pointer (some ad)) : (execOp a.eval o).run Try.prog w = .ok (.value (.pointer (some ad))) w := by
  unfold execOp; simp only [ho, hx]; rfl
theorem agg3 (w : World) : (isAgg 3).run Try.prog w = .ok false w := by kernel_rfl
theorem agg23 (w : World) : (isAgg 23).run Try.prog w = .ok false w := by kernel_rfl
theorem agg24 (w : World) : (isAgg 24).run Try.prog w = .ok false w := by kernel_rfl
theorem r_load1 (T : TypeId) (hT : ∀ w, (isAgg T).run Try.prog w = .ok false w) (x : Operand) (ad : Addr) (ho : o.op = .load T x) (hx : a.eval x = .pointer (some ad)) (hc : w.cell? ad = some v) : (execOp a.eval o).run Try.prog w = .ok (.value v) w := by
  unfold execOp
  simp only [ho, hx, Instr.loadAt, Instr.sureAddr, loadVar, Sem.run_bind, Sem.run_pure, Result.andThen_ok, hT]
  simp [go_sem, hc]
theorem fld124_0 (b : Nat) (w : World) : (Instr.fieldAt 124 (.pointer (some ⟨b, 0, none⟩)) 0).run Try.prog w = .ok (.pointer (some ⟨b, 0, none⟩)) w := by kernel_rfl
theorem fld124_1 (b : Nat) (w : World) : (Instr.fieldAt 124 (.pointer (some ⟨b, 0, none⟩)) 1).run Try.prog w = .ok (.pointer (some ⟨b, 1, none⟩)) w := by kernel_rfl
theorem fld124_4 (b : Nat) (w : World) : (Instr.fieldAt 124 (.pointer (some ⟨b, 0, none⟩)) 4).run Try.prog w = .ok (.pointer (some ⟨b, 4, none⟩)) w := by kernel_rfl
theorem fld124_5 (b : Nat) (w : World) : (Instr.fieldAt 124 (.pointer (some ⟨b, 0, none⟩)) 5).run Try.prog w = .ok (.pointer (some ⟨b, 5, none⟩)) w := by kernel_rfl
theorem r_idx {T : Nat} (x y : Operand) (ad i : Value) (ho : o.op = .indexAddr T x y) (hx : a.eval x = ad) (hy : a.eval y = i) (hf : (Instr.indexAt T ad i).run Try.prog w = .ok v w) : (execOp a.eval o).run Try.prog w = .ok (.value v) w := by
  unfold execOp; simp only [ho, hx, hy, Sem.run_bind, hf, Result.andThen_ok]; rfl
theorem r_store1 (T : TypeId) (x y : Operand) (ad : Addr) (u v : Value) (ho : o.op = .store T x y) (hx : a.eval x = .pointer (some ad)) (hy : a.eval y = v) (_h1 : ad.spot = none) (_hc : w.cell? ad = some u) (_hf : w.frozen? ad = false) (ht : (Instr.storeAt T (.pointer (some ad)) v).run Try.prog w = .ok () (w.setCell ad v)) : (execOp a.eval o).run Try.prog w = .ok .skip (w.setCell ad v) := by
  unfold execOp
  simp only [ho, hx, hy, Sem.run_bind, ht, Result.andThen_ok]
  rfl
theorem st3 (ad : Addr) (x y : Int) (hc : w.cell? ad = some (.int .i64 x)) (hf : w.frozen? ad = false) : (Instr.storeAt 3 (.pointer (some ad)) (.int .i64 y)).run Try.prog w = .ok () (w.setCell ad (.int .i64 y)) := by
  simp [Instr.storeAt, Instr.sureAddr, go_sem, hc, hf]
theorem st24 (ad : Addr) (u : Value) (A : Option Addr) (m c : Nat) (hc : w.cell? ad = some u) (hf : w.frozen? ad = false) : (Instr.storeAt 24 (.pointer (some ad)) (.slice A m c)).run Try.prog w = .ok () (w.setCell ad (.slice A m c)) := by
  simp [Instr.storeAt, Instr.sureAddr, go_sem, hc, hf]
end
end Go.Proofs
namespace Go.Proofs
open Go.RowKit Go.Shelf Go.Proofs.Ct Go.Maps
/-- the program's state: its box b, width wd, limit lim -/
structure BoxP (b wd lim : Nat) (w : World) (s : St) (vr vp vq : Value) : Prop where
  box : w.heap[b]? = some (.cells #[.int .i64 (wd : Int), .int .i64 (lim : Int), vr, vp, vq, .int .i64 s.live, .int .i64 s.most] 116 (0, 0))
theorem BoxP.cells {b wd lim : Nat} {w : World} {s : St} {vr vp vq : Value} (h : BoxP b wd lim w s vr vp vq) : w.cell? ⟨b, 0, none⟩ = some (.int .i64 (wd : Int)) ∧ w.cell? ⟨b, 1, none⟩ = some (.int .i64 (lim : Int)) ∧ w.cell? ⟨b, 2, none⟩ = some vr ∧ w.cell? ⟨b, 3, none⟩ = some vp ∧ w.cell? ⟨b, 4, none⟩ = some vq ∧ w.cell? ⟨b, 5, none⟩ = some (.int .i64 s.live) ∧ w.cell? ⟨b, 6, none⟩ = some (.int .i64 s.most) := by
  have hc := h.box
  refine ⟨?_, ?_, ?_, ?_, ?_, ?_, ?_⟩ <;> (rw [cell_of_row _ _ _ _ _ _ hc]; rfl)
theorem BoxP.below {b wd lim : Nat} {w w' : World} {s : St} {vr vp vq : Value} (h : BoxP b wd lim w s vr vp vq) (hb : Below w.heap.size w w') : BoxP b wd lim w' s vr vp vq := ⟨(hb.block _ (Array.getElem?_eq_some_iff.1 h.box).1).trans h.box⟩
theorem BoxP.other {b wd lim : Nat} {w : World} {s : St} {vr vp vq : Value} (h : BoxP b wd lim w s vr vp vq) {g : Nat} {T : TypeId} (hg : ∃ C, w.heap[g]? = some (.cells C T (0, 0))) (hT : T ≠ 116) (k : Nat) (v : Value) : BoxP b wd lim (w.setCell ⟨g, k, none⟩ v) s vr vp vq :=
  ⟨(Below.heap_setCell w ⟨g, k, none⟩ v b (fun e => by
    obtain ⟨C, hC⟩ := hg
    have e' : b = g := e
    have := h.box
    rw [e', hC] at this
    cases this
    exact hT rfl)).trans h.box⟩
/-- the program's state in memory -/
def StP (base b wd lim : Nat) (w : World) (s : St) : Prop := base ≤ b ∧ ∃ P vr vp vq bl cs, BoxP b wd lim w s vr vp vq ∧ CoreM base w s P vr vp vq bl cs
end Go.Proofs
namespace Go.Proofs
open Go.RowKit Go.Shelf Go.Proofs.Ct Go.Maps
theorem box_set {w : World} {b : Nat} {C : Array Value} {T : TypeId} (hb : w.heap[b]? = some (.cells C T (0, 0))) (k : Nat) (v : Value) : (w.setCell ⟨b, k, none⟩ v).heap[b]? = some (.cells (C.setIfInBounds k v) T (0, 0)) := by
  simp [World.setCell, Array.getElem?_modify, hb]
section
variable {b wd lim : Nat} {w : World} {s s' : St} {vr vp vq : Value}
theorem BoxP.upd2 (h : BoxP b wd lim w s vr vp vq) (v : Value) (hl : s'.live = s.live) (hm : s'.most = s.most) : BoxP b wd lim (w.setCell ⟨b, 2, none⟩ v) s' v vp vq := ⟨by rw [box_set h.box]; simp [hl, hm]⟩
theorem BoxP.upd3 (h : BoxP b wd lim w s vr vp vq) (v : Value) (hl : s'.live = s.live) (hm : s'.most = s.most) : BoxP b wd lim (w.setCell ⟨b, 3, none⟩ v) s' vr v vq := ⟨by rw [box_set h.box]; simp [hl, hm]⟩
theorem BoxP.upd4 (h : BoxP b wd lim w s vr vp vq) (v : Value) (hl : s'.live = s.live) (hm : s'.most = s.most) : BoxP b wd lim (w.setCell ⟨b, 4, none⟩ v) s' vr vp v := ⟨by rw [box_set h.box]; simp [hl, hm]⟩
theorem BoxP.upd5 (h : BoxP b wd lim w s vr vp vq) {z : Int} (hl : s'.live = z) (hm : s'.most = s.most) : BoxP b wd lim (w.setCell ⟨b, 5, none⟩ (.int .i64 z)) s' vr vp vq := ⟨by rw [box_set h.box]; simp [hl, hm]⟩
theorem BoxP.frozen (h : BoxP b wd lim w s vr vp vq) (k : Nat) : w.frozen? ⟨b, k, none⟩ = false := by simp [World.frozen?, h.box]
theorem BoxP.lt (h : BoxP b wd lim w s vr vp vq) : b < w.heap.size := (Array.getElem?_eq_some_iff.1 h.box).1
theorem BoxP.of (h : BoxP b wd lim w s vr vp vq) (hl : s'.live = s.live) (hm : s'.most = s.most) : BoxP b wd lim w s' vr vp vq := ⟨by rw [hl, hm]; exact h.box⟩
end
end Go.Proofs
namespace Go.Proofs
open Go.RowKit Go.Shelf Go.Proofs.Ct Go.Maps
theorem BoxP.grown {b wd lim : Nat} {w w' : World} {s : St} {vr vp vq : Value} (h : BoxP b wd lim w s vr vp vq) {o : Option Nat} (hg : w.grownBy w' o) (hn : o ≠ some b) : BoxP b wd lim w' s vr vp vq := ⟨(hg.block b h.lt (Ne.symm hn)).trans h.box⟩
end Go.Proofs
namespace Go.Proofs
open Go.RowKit Go.Shelf Go.Proofs.Ct Go.Maps
/-- what lies below base is kept, and so is each struct of type 40 -/
def Kf (base : Nat) (w w' : World) : Prop := Below base w w' ∧ ∀ (k : Nat) (C : Array Value), w.heap[k]? = some (Obj.cells C 40 (0, 0)) → w'.heap[k]? = some (Obj.cells C 40 (0, 0))
section
variable {base : Nat} {w w1 w2 : World}
theorem Kf.refl (base : Nat) (w : World) : Kf base w w := ⟨Below.refl _ _, fun _ _ h => h⟩
theorem Kf.trans (h : Kf base w w1) (h2 : Kf base w1 w2) : Kf base w w2 := ⟨h.1.trans h2.1, fun k C hk => h2.2 k C (h.2 k C hk)⟩
theorem Kf.size (h : Kf base w w1) : w.heap.size ≤ w1.heap.size := h.1.size
theorem Kf.of (h : Below w.heap.size w w1) (hb : base ≤ w.heap.size) : Kf base w w1 := ⟨h.mono hb, fun k _ hk => (h.block k (Array.getElem?_eq_some_iff.1 hk).1).trans hk⟩
theorem Kf.setCell (h : Kf base w w1) {p : Addr} (hp : base ≤ p.block) (hT : ∃ C T, w1.heap[p.block]? = some (.cells C T (0, 0)) ∧ T ≠ 40) (v : Value) : Kf base w (w1.setCell p v) :=
  ⟨h.1.setCell hp v, fun k C hk => (Below.heap_setCell w1 p v k (fun e => by
    obtain ⟨C', T, h1, h2⟩ := hT
    have := h.2 k C hk
    rw [e, h1] at this
    cases this
    exact h2 rfl)).trans (h.2 k C hk)⟩
theorem Kf.grown (h : Kf base w w1) {row : Option Nat} (hg : w1.grownBy w2 row) (hbw : base ≤ w1.heap.size) (hr : ∀ r, row = some r → base ≤ r ∧ ∃ C T, w1.heap[r]? = some (.cells C T (0, 0)) ∧ T ≠ 40) : Kf base w w2 :=
  ⟨h.1.grown hg hbw fun r e => (hr r e).1, fun k C hk => (hg.block k (Array.getElem?_eq_some_iff.1 (h.2 k C hk)).1 (fun e => by
    obtain ⟨-, C', T, h1, h2⟩ := hr k e.symm
    have := h.2 k C hk
    rw [h1] at this
    cases this
    exact h2 rfl)).trans (h.2 k C hk)⟩
theorem Kf.drewN (h : Kf base w w1) (q : Nat) : Kf base w (w1.drewN q) := ⟨below_drewN h.1 q, h.2⟩
end
theorem owns_kf {w : World} {base e n : Nat} {v : Value} {xs : List Value} (h : w.ownsRow base e 1 v n xs) (he : e ≠ 40) : ∀ r, v.ownBlock = some r → base ≤ r ∧ ∃ C T, w.heap[r]? = some (.cells C T (0, 0)) ∧ T ≠ 40 := fun r hr => by
  obtain ⟨h1, C, hC⟩ := owns_block h r hr
  exact ⟨h1, C, e, hC, he⟩
/-- the reference's state: its box b, limit lim -/
structure BoxR (b lim : Nat) (w : World) (s : St) (vr vp vq : Value) (f : Bool) : Prop where
  box : w.heap[b]? = some (.cells #[vr, vp, vq, .int .i64 (lim : Int), .int .i64 s.live, .int .i64 s.most, .bool f] 124 (0, 0))
section
variable {b lim : Nat} {w w' : World} {s s' : St} {vr vp vq : Value} {f : Bool}
theorem BoxR.cells (h : BoxR b lim w s vr vp vq f) : w.cell? ⟨b, 0, none⟩ = some vr ∧ w.cell? ⟨b, 1, none⟩ = some vp ∧ w.cell? ⟨b, 2, none⟩ = some vq ∧ w.cell? ⟨b, 3, none⟩ = some (.int .i64 (lim : Int)) ∧ w.cell? ⟨b, 4, none⟩ = some (.int .i64 s.live) ∧ w.cell? ⟨b, 5, none⟩ = some (.int .i64 s.most) ∧ w.cell? ⟨b, 6, none⟩ = some (.bool f) := by
  have hc := h.box
  refine ⟨?_, ?_, ?_, ?_, ?_, ?_, ?_⟩ <;> (rw [cell_of_row _ _ _ _ _ _ hc]; rfl)
theorem BoxR.frozen (h : BoxR b lim w s vr vp vq f) (k : Nat) : w.frozen? ⟨b, k, none⟩ = false := by simp [World.frozen?, h.box]
theorem BoxR.lt (h : BoxR b lim w s vr vp vq f) : b < w.heap.size := (Array.getElem?_eq_some_iff.1 h.box).1
theorem BoxR.below (h : BoxR b lim w s vr vp vq f) (hb : Below w.heap.size w w') : BoxR b lim w' s vr vp vq f := ⟨(hb.block _ h.lt).trans h.box⟩
theorem BoxR.other (h : BoxR b lim w s vr vp vq f) {g : Nat} {T : TypeId} (hg : ∃ C, w.heap[g]? = some (.cells C T (0, 0))) (hT : T ≠ 124) (k : Nat) (v : Value) : BoxR b lim (w.setCell ⟨g, k, none⟩ v) s vr vp vq f :=
  ⟨(Below.heap_setCell w ⟨g, k, none⟩ v b (fun e => by
    obtain ⟨C, hC⟩ := hg
    have e' : b = g := e
    have := h.box
    rw [e', hC] at this
    cases this
    exact hT rfl)).trans h.box⟩
theorem BoxR.grown (h : BoxR b lim w s vr vp vq f) {o : Option Nat} (hg : w.grownBy w' o) (hn : o ≠ some b) : BoxR b lim w' s vr vp vq f := ⟨(hg.block b h.lt (Ne.symm hn)).trans h.box⟩
theorem boxR_set {b k : Nat} {C : Array Value} {T : TypeId} (h : w.heap[b]? = some (.cells C T (0, 0))) (v : Value) : (w.setCell ⟨b, k, none⟩ v).heap[b]? = some (.cells (C.setIfInBounds k v) T (0, 0)) := by
  simp [World.setCell, Array.getElem?_modify, h]
theorem BoxR.upd0 (h : BoxR b lim w s vr vp vq f) (v : Value) (hl : s'.live = s.live) (hm : s'.most = s.most) : BoxR b lim (w.setCell ⟨b, 0, none⟩ v) s' v vp vq f := ⟨by rw [boxR_set h.box]; simp [hl, hm]⟩
theorem BoxR.upd1 (h : BoxR b lim w s vr vp vq f) (v : Value) (hl : s'.live = s.live) (hm : s'.most = s.most) : BoxR b lim (w.setCell ⟨b, 1, none⟩ v) s' vr v vq f := ⟨by rw [boxR_set h.box]; simp [hl, hm]⟩
theorem BoxR.upd2 (h : BoxR b lim w s vr vp vq f) (v : Value) (hl : s'.live = s.live) (hm : s'.most = s.most) : BoxR b lim (w.setCell ⟨b, 2, none⟩ v) s' vr vp v f := ⟨by rw [boxR_set h.box]; simp [hl, hm]⟩
theorem BoxR.upd4 (h : BoxR b lim w s vr vp vq f) {z : Int} (hl : s'.live = z) (hm : s'.most = s.most) : BoxR b lim (w.setCell ⟨b, 4, none⟩ (.int .i64 z)) s' vr vp vq f := ⟨by rw [boxR_set h.box]; simp [hl, hm]⟩
theorem BoxR.upd5 (h : BoxR b lim w s vr vp vq f) {z : Int} (hl : s'.live = s.live) (hm : s'.most = z) : BoxR b lim (w.setCell ⟨b, 5, none⟩ (.int .i64 z)) s' vr vp vq f := ⟨by rw [boxR_set h.box]; simp [hl, hm]⟩
theorem BoxR.of (h : BoxR b lim w s vr vp vq f) (hl : s'.live = s.live) (hm : s'.most = s.most) : BoxR b lim w s' vr vp vq f := ⟨by rw [hl, hm]; exact h.box⟩
end
theorem CoreM.ne_boxR {base b lim : Nat} {w : World} {s s' : St} {P : List Int} {vr vp vq v1 v2 v3 : Value} {f : Bool} {bl cs : Nat → Nat} (h : CoreM base w s P vr vp vq bl cs) (hB : BoxR b lim w s' v1 v2 v3 f) : vp.ownBlock ≠ some b ∧ vq.ownBlock ≠ some b ∧ vr.ownBlock ≠ some b ∧ ∀ i, i < s.t.length → bl i ≠ b := by
  refine ⟨fun e => ?_, fun e => ?_, fun e => ?_, fun i hi e => ?_⟩
  · obtain ⟨-, C, hC⟩ := owns_block h.par b e
    rw [hB.box] at hC
    cases hC
  · obtain ⟨-, C, hC⟩ := owns_block h.que b e
    rw [hB.box] at hC
    cases hC
  · obtain ⟨-, C, hC⟩ := owns_block h.out b e
    rw [hB.box] at hC
    cases hC
  · obtain ⟨-, ⟨C, hC, -⟩, -⟩ := h.row i hi
    rw [e, hB.box] at hC
    cases hC
/-- the reference's state in memory -/
def StR (base b lim : Nat) (w : World) (s : St) : Prop := base ≤ b ∧ ∃ P vr vp vq bl cs f, BoxR b lim w s vr vp vq f ∧ CoreM base w s P vr vp vq bl cs
section
variable {g base b lim : Nat} {w w' : World} {s : St}
theorem StR.below (h : StR base b lim w s) (hb : Below w.heap.size w w') : StR base b lim w' s := by
  obtain ⟨h1, P, vr, vp, vq, bl, cs, f, h2, h3⟩ := h
  exact ⟨h1, P, vr, vp, vq, bl, cs, f, h2.below hb, h3.below hb⟩
/-- an element of the rows -/
theorem StR.at_ (hI : Inv g s) (hS : StR base b lim w s) {r c : Nat} (hr : r < s.t.length) (hc : c < 2 * g) : ∃ gr cr br k, w.cell? ⟨b, 0, none⟩ = some (.slice (some ⟨gr, 0, none⟩) s.t.length cr) ∧ w.cell? ⟨gr, r, none⟩ = some (.slice (some ⟨br, 0, none⟩) (2 * g) k) ∧ w.cell? ⟨br, c, none⟩ = some (.int .i64 (s.t.at r c)) := by
  obtain ⟨-, P, vr, vp, vq, bl, cs, f, hB, hC⟩ := hS
  obtain ⟨gr, cr, rfl, r1, r2, r3⟩ := hC.at_ hr (c := c) (by rw [hI.len r hr]; exact hc)
  rw [hI.len r hr] at r1
  exact ⟨gr, cr, bl r, cs r, hB.cells.1, r1, r2⟩
/-- the rows: what is read of them, and what a write leaves (rows of 2 * g elements are all that is asked) -/
theorem StR.view (hl : ∀ r, r < s.t.length → (s.t.row r).length = 2 * g) (hS : StR base b lim w s) (h0 : 0 < s.t.length) : ∃ (gr cr : Nat) (bl cs : Nat → Nat), w.cell? ⟨b, 0, none⟩ = some (.slice (some ⟨gr, 0, none⟩) s.t.length cr) ∧ (∀ (r : Nat), r < s.t.length → w.cell? ⟨gr, r, none⟩ = some (.slice (some ⟨bl r, 0, none⟩) (2 * g) (cs r))) ∧ ∀ (r c : Nat), r < s.t.length → c < 2 * g → w.cell? ⟨bl r, c, none⟩ = some (.int .i64 (s.t.at r c)) ∧ w.frozen? ⟨bl r, c, none⟩ = false ∧
    ∀ z, StR base b lim (w.setCell ⟨bl r, c, none⟩ (.int .i64 z)) { s with t := set2 s.t r c z } ∧ Kf base w (w.setCell ⟨bl r, c, none⟩ (.int .i64 z)) := by
  obtain ⟨hb, P, vr, vp, vq, bl, cs, f, hB, hC⟩ := hS
  obtain ⟨hlo, ho⟩ := hC.out
  rcases ho with ⟨-, h⟩ | ⟨gr, cap, cur, hvr, hbo, hCr, h3, hm, hs, ht⟩
  · omega
  · refine ⟨gr, cap, bl, cs, by rw [← hvr]; exact hB.cells.1, fun r hr => ?_, fun r c hr hc => ?_⟩
    · rw [cell_of_row _ _ _ _ _ _ hCr]
      have h2 : (cur.toList.take (s.t.length * 1))[r]? = ((List.range s.t.length).map fun i => Value.slice (some ⟨bl i, 0, none⟩) (s.t.row i).length (cs i))[r]? := by rw [ht]
      rw [List.getElem?_take, if_pos (by omega)] at h2
      simpa [hr, hl r hr] using h2
    · have hc' : c < (s.t.row r).length := by rw [hl r hr]; exact hc
      obtain ⟨gr', cr', e, r1, r2, r3⟩ := hC.at_ hr hc'
      obtain ⟨h1, ⟨C, hCb, -⟩, -⟩ := hC.row r hr
      exact ⟨r2, r3, fun z => ⟨⟨hb, P, _, vp, vq, bl, cs, f, (hB.other ⟨C, hCb⟩ (by decide) c _).of rfl rfl, hC.set hr hc' z⟩, (Kf.refl base w).setCell h1 ⟨C, 3, hCb, by decide⟩ _⟩⟩
/-- a parent -/
theorem StR.par (hS : StR base b lim w s) {c : Nat} (hc : c < s.t.length) : ∃ P gp cp, w.cell? ⟨b, 1, none⟩ = some (.slice (some ⟨gp, 0, none⟩) s.t.length cp) ∧ Roots P s ∧ ∀ k, k < s.t.length → w.cell? ⟨gp, k, none⟩ = some (.int .i64 (P.getD k 0)) := by
  obtain ⟨-, P, vr, vp, vq, bl, cs, f, hB, hC⟩ := hS
  obtain ⟨gp, cp, rfl, hg1, hg2, hcc, -⟩ := ownI_cell hC.par (by rw [hC.len]; omega)
  rw [hC.len] at hB hcc
  exact ⟨P, gp, cp, hB.cells.2.1, hC.root, fun k hk => hcc k hk⟩
/-- the queue -/
theorem StR.que (hS : StR base b lim w s) : ∃ A c, w.cell? ⟨b, 2, none⟩ = some (.slice A s.q.length c) ∧ w.frozen? ⟨b, 2, none⟩ = false ∧ (0 < s.q.length → ∃ gq, A = some ⟨gq, 0, none⟩ ∧ ∀ k, k < s.q.length → w.cell? ⟨gq, k, none⟩ = some (.int .i64 (s.q.getD k 0 : Int))) ∧
    StR base b lim (w.setCell ⟨b, 2, none⟩ (.slice none 0 0)) { s with q := [] } ∧ Kf base w (w.setCell ⟨b, 2, none⟩ (.slice none 0 0)) := by
  obtain ⟨hb, P, vr, vp, vq, bl, cs, f, hB, hC⟩ := hS
  obtain ⟨A, c, rfl⟩ : ∃ A c, vq = .slice A s.q.length c := by
    rcases hC.que.2 with ⟨h, h0⟩ | ⟨gq, cap, cur, h, -⟩
    · rw [length_nats] at h0; exact ⟨none, 0, by rw [h0]; exact h⟩
    · rw [length_nats] at h; exact ⟨_, cap, h⟩
  have hC0 : CoreM base w { s with q := [] } P vr vp (.slice none 0 0) bl cs :=
    ⟨hC.out, hC.row, hC.inj, hC.par, World.ownsRow_nil _ _ _ _, hC.sepP, (fun i hi e => by cases e), (fun r hr e => by cases e), hC.root.of_rep rfl rfl⟩
  refine ⟨A, c, hB.cells.2.2.1, hB.frozen 2, fun h0 => ?_, ⟨hb, P, vr, vp, _, bl, cs, f, (hB.upd2 (s' := { s with q := [] }) (.slice none 0 0) rfl rfl), hC0.other hB.box (by decide) (by decide) 2 _⟩, (Kf.refl base w).setCell hb ⟨_, 124, hB.box, by decide⟩ _⟩
  obtain ⟨gq, cq, e, -, -, hcc, -⟩ := ownI_cell hC.que (by rw [length_nats]; exact h0)
  rw [length_nats] at e hcc
  injection e with e1 e2 e3
  exact ⟨gq, e1, fun k hk => by have := hcc k hk; rwa [nats_getD] at this⟩
end
set_option maxRecDepth 100000 in
set_option maxHeartbeats 1000000 in
theorem rep160_any (g base b lim c : Nat) (w : World) (s : St) (_hI : Inv g s) (hS : StR base b lim w s) (hc : c < s.t.length) (hn : s.t.length ≤ 1000000) :
    Calls Try.prog 160 #[.pointer (some ⟨b, 0, none⟩), .int .i64 (c : Int)] w fun e w' => e = .returned (.int .i64 (s.rp c : Int)) ∧ w = w' := by
  obtain ⟨P, gp, cp, c1, hR, hcc⟩ := hS.par hc
  have HR := Lib.hid hR
  have HCC := Lib.hid hcc
  have HRC := Lib.hid (hR.root c hc)
  have hn0 : (s.t.length : Int) ≤ 1000000 := by omega
  clear hS hR hcc
  go_enter Try.func160, Try.ntmps160
  go_wp2_with fail
  go_loopw [1] (fun i wr => ∃ r : Nat, i = .int .i64 r ∧ r < s.t.length ∧ Hid (Root P r (s.rp c)) ∧ w = wr) (fun i _ => (intOf i).toNat)
  case atStart => exact ⟨c, rfl, hc, HRC, rfl⟩
  case round =>
    obtain ⟨r, rfl, hr, HRR, rfl⟩ := hrel
    have hr0 : (0 : Int) ≤ (r : Int) := Int.natCast_nonneg _
    have hrI : (r : Int) < (s.t.length : Int) := by omega
    obtain ⟨y, hy, hyx, hyr, hyi⟩ := HRR.out.parent
    have hck := HCC.out r hr
    rw [hy] at hck
    have HYR := Lib.hid hyr
    have HYI := Lib.hid hyi
    clear hy hyr hyi
    by_cases hyx2 : y = r
    · subst hyx2
      have HE : Hid (s.rp c = y) := Lib.hid (HYI.out.1 rfl)
      have d2 : ((y : Int) != (y : Int)) = false := by simp
      go_wp2_with fail
      go_ret
      exact ⟨ret_int (by rw [HE.out]), rfl⟩
    · have d2 : ((y : Int) != (r : Int)) = true := by simp; omega
      have hyl : y < r := by omega
      go_wp2_with fail
      go_roundw
      case rel => exact ⟨y, rfl, by omega, HYR, trivial⟩
      case measure => simp [intOf]; omega
end Go.Proofs
