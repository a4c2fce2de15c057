/- cayleyref17.Same; the walk of RewritePresents; A region that draws its order, with guarded operations: each operation is shown once; A region that draws its order, whatever it holds: each operation is shown once; One operation at a time: what it runs to; (*coset.state).find. -/
import Derived.Test.YtmpnengjboabcaaGreatRgCS13
import Derived.Deep.MidRow
import Derived.Deep.RegionHeld3
import Derived.Test.YtmpnengjboabcaaGreatRgCS5
import Derived.BigRegion
import Derived.WalkMore
namespace Go.Proofs
open Go.RowKit Go.Shelf Go.Proofs.Ct Go.Maps
theorem quiet_add_ex {P : Program} {f : FuncId} {args : Array Value} {w : World} {a n : Nat} {v : Value}
    (h : Calls P f args (w.drewN (a + n)) fun e w' => e = .returned v ∧ ∃ q, w' = (w.drewN (a + n)).drewN q) :
    Calls P f args (w.drewN (a + n)) fun e w'' => e = .returned v ∧ ∃ m, w'' = w.drewN (a + m) :=
  h.mono fun _ _ ⟨he, q, hm⟩ => ⟨he, n + q, by rw [hm, World.drewN_drewN, Nat.add_assoc]⟩
theorem wpList_valG {ops : Array Oper} {rest : List Oper} {o : Oper} {a : Act} {w w' : World} {Q : Exit → Act → World → Prop} {v : Value} (hg : Region.wanted o (yielded ops a.tmps) = true) (hrun : (execOp a.eval o).run Tryz.prog w = .ok (.value v) w') (h : wpList Tryz.prog ops Q rest (a.put o.dst v) w') : wpList Tryz.prog ops Q (o :: rest) a w :=
  BigFrame.wpList_want hg fun _ hK => by
    unfold Oper.wp
    rw [hrun]
    exact hK _ _ h
set_option maxRecDepth 100000 in
set_option maxHeartbeats 1000000 in
theorem equal80_any (w : World) (u v : Value) (x y : List Int) (hu : IntsAt w u x) (hv : IntsAt w v y) : Calls Tryz.prog 44 #[u, v] w fun e w' => e = .returned (.bool (decide (x = y))) ∧ ∃ q, w' = w.drewN q := by
  obtain ⟨A, c, rfl, h1, h2, h3⟩ := hu.open_
  obtain ⟨B, d, rfl, k1, k2, k3⟩ := hv.open_
  have HA := Lib.hid h3
  have HB := Lib.hid k3
  have hx0 : (0 : Int) ≤ (x.length : Int) := Int.natCast_nonneg _
  clear hu hv h3 k3
  by_cases hl : x.length = y.length
  · have d1 : ((x.length : Int) != (y.length : Int)) = false := by simp; omega
    have d2 : (x.length != y.length) = false := by simp; omega
    have HL := Lib.hid hl
    clear hl
    go_enter Tryz.func44, Tryz.ntmps44
    go_wp2_with fail
    go_loopw [5] (fun i wr => ∃ k : Nat, k ≤ x.length ∧ i = .int .i64 k ∧ Hid (∀ j, j < k → x.getD j 0 = y.getD j 0) ∧ ∃ q, wr = w.drewN q) (fun i _ => x.length - (intOf i).toNat)
    case atStart => exact ⟨0, Nat.zero_le _, rfl, Lib.hid fun j hj => absurd hj (by omega), 0, rfl⟩
    case round =>
      obtain ⟨k, hk, rfl, HZ, q, rfl⟩ := hrel
      have hk0 : (0 : Int) ≤ (k : Int) := Int.natCast_nonneg _
      by_cases hlt : k < x.length
      · obtain ⟨ba, oa, rfl, hca⟩ := HA.out (by omega)
        obtain ⟨bb, ob, rfl, hcb⟩ := HB.out (by rw [← HL.out]; omega)
        have hx1 := hca k hlt
        have hx2 := hcb k (by rw [← HL.out]; omega)
        have hka : (k : Int) < (x.length : Int) := by omega
        have hkb : (k : Int) < (y.length : Int) := by rw [← HL.out]; omega
        have HK : Hid (x.getD k 0 = y.getD k 0 → ∀ j, j < k + 1 → x.getD j 0 = y.getD j 0) := Lib.hid fun h => all_succ HZ.out h
        have HN : Hid (x.getD k 0 ≠ y.getD k 0 → x ≠ y) := Lib.hid fun h => getD_ne h
        clear hca hcb
        generalize x.getD k 0 = s at *
        generalize y.getD k 0 = t at *
        by_cases hst : s = t
        · have d5 : (s != t) = false := by simpa using hst
          have HK2 := Lib.hid (HK.out hst)
          clear hst HK HN
          go_wp2_with fail
          go_quiet (fail)
          go_wp2_with fail
          go_roundw
          case rel => exact ⟨k + 1, by omega, by go_num, HK2, (by first | exact ⟨_, rfl⟩ | exact ex_drewN)⟩
          case measure => simp [intOf]; omega
        · have d5 : (s != t) = true := by simpa using hst
          have HD : Hid (decide (x = y) = false) := Lib.hid (decide_eq_false (HN.out hst))
          clear hst HK HN
          go_wp2_with fail
          go_quiet (fail)
          go_wp2_with fail
          go_ret
          exact ⟨ret_bool HD.out.symm, (by first | exact ⟨_, rfl⟩ | exact ex_drewN)⟩
      · obtain rfl : k = x.length := by omega
        have HD : Hid (decide (x = y) = true) := Lib.hid (decide_eq_true (getD_ext HL.out HZ.out))
        go_wp2_with fail
        go_ret
        exact ⟨ret_bool HD.out.symm, (by first | exact ⟨_, rfl⟩ | exact ex_drewN)⟩
  · have d1 : ((x.length : Int) != (y.length : Int)) = true := by simp; omega
    have d2 : (x.length != y.length) = true := by simp; omega
    have HD : Hid (decide (x = y) = false) := Lib.hid (decide_eq_false fun h => hl (by rw [h]))
    clear hl
    go_enter Tryz.func44, Tryz.ntmps44
    go_wp2_with fail
    go_ret
    exact ⟨ret_bool HD.out.symm, 0, rfl⟩
set_option maxRecDepth 100000 in
set_option maxHeartbeats 2000000 in
theorem same26_any (w : World) (va vb : Value) (g1 g2 : Int) (A B : List (List Int)) (ha : Tab w va A) (hb : Tab w vb B) :
    Calls Tryz.prog 19 #[.agg #[.int .i64 g1, va], .agg #[.int .i64 g2, vb]] w fun e w' => e = .returned (.bool (decide (g1 = g2 ∧ A = B))) ∧ Below w.heap.size w w' := by
  obtain ⟨A0, ca, rfl, ha1, ha2, ha3⟩ := ha.open_
  obtain ⟨B0, cb, rfl, hb1, hb2, hb3⟩ := hb.open_
  have hbel : Below w.heap.size w ((w.alloc (.cells #[.int .i64 g1, .slice A0 A.length ca] 26)).alloc (.cells #[.int .i64 g2, .slice B0 B.length cb] 26)) := ((Below.refl _ _).alloc (Nat.le_refl _) _).alloc (by simp) _
  have hn1 : ((w.alloc (.cells #[.int .i64 g1, .slice A0 A.length ca] 26)).alloc (.cells #[.int .i64 g2, .slice B0 B.length cb] 26)).heap[w.heap.size]? = some (.cells #[.int .i64 g1, .slice A0 A.length ca] 26 (0, 0)) := (Below.heap_alloc (w.alloc _) _ w.heap.size (by simp)).trans (heap_alloc_new w _)
  have hn2 : ((w.alloc (.cells #[.int .i64 g1, .slice A0 A.length ca] 26)).alloc (.cells #[.int .i64 g2, .slice B0 B.length cb] 26)).heap[w.heap.size + 1]? = some (.cells #[.int .i64 g2, .slice B0 B.length cb] 26 (0, 0)) := by
    have := heap_alloc_new (w.alloc (.cells #[.int .i64 g1, .slice A0 A.length ca] 26)) (.cells #[.int .i64 g2, .slice B0 B.length cb] 26); rwa [World.size_alloc] at this
  obtain ⟨p0, p1⟩ := cell_of2 hn1
  obtain ⟨q0, q1⟩ := cell_of2 hn2
  have HA := Lib.hid ha3
  have HB := Lib.hid hb3
  have HBE := Lib.hid hbel
  have hA0 : (0 : Int) ≤ (A.length : Int) := Int.natCast_nonneg _
  clear ha hb ha3 hb3 hbel hn1 hn2
  by_cases hg : g1 = g2
  · have e1 : (g1 != g2) = false := by simpa using hg
    by_cases hl : A.length = B.length
    · have d1 : ((A.length : Int) != (B.length : Int)) = false := by simp; omega
      have d2 : (A.length != B.length) = false := by simp; omega
      have HL := Lib.hid hl
      have HG := Lib.hid hg
      clear hl hg
      go_enter Tryz.func19, Tryz.ntmps19
      go_wp2_with fail
      generalize hw0 : (w.alloc (.cells #[.int .i64 g1, .slice A0 A.length ca] 26)).alloc (.cells #[.int .i64 g2, .slice B0 B.length cb] 26) = w0 at *
      clear hw0
      go_loopw [5] (fun i wr => ∃ k : Nat, k ≤ A.length ∧ i = .int .i64 k ∧ Hid (∀ j, j < k → A.getD j [] = B.getD j []) ∧ ∃ q, wr = w0.drewN q) (fun i _ => A.length - (intOf i).toNat)
      case atStart => exact ⟨0, Nat.zero_le _, rfl, Lib.hid fun j hj => absurd hj (by omega), 0, rfl⟩
      case round =>
        obtain ⟨k, hk, rfl, HZ, q, rfl⟩ := hrel
        by_cases hlt : k < A.length
        · obtain ⟨b1, o1, rfl, hc1⟩ := HA.out (by omega)
          obtain ⟨b2, o2, rfl, hc2⟩ := HB.out (by rw [← HL.out]; omega)
          obtain ⟨u1, hu1, hr1⟩ := hc1 k hlt
          obtain ⟨u2, hu2, hr2⟩ := hc2 k (by rw [← HL.out]; omega)
          have hz1 := (HBE.out.cell (p := ⟨b1, o1 + k, none⟩) (World.block_lt_of_cell? w _ hu1)).trans hu1
          have hz2 := (HBE.out.cell (p := ⟨b2, o2 + k, none⟩) (World.block_lt_of_cell? w _ hu2)).trans hu2
          have hi1 := hr1.below HBE.out
          have hi2 := hr2.below HBE.out
          have hk0 : (0 : Int) ≤ (k : Int) := Int.natCast_nonneg _
          have hkb : (k : Int) < (B.length : Int) := by rw [← HL.out]; omega
          have hka : (k : Int) < (A.length : Int) := by omega
          have HEQ : Hid (∀ n, Calls Tryz.prog 44 #[u1, u2] (w0.drewN n) fun e w' => e = .returned (.bool (decide (A.getD k [] = B.getD k []))) ∧ ∃ q, w' = (w0.drewN n).drewN q) := Lib.hid fun n => equal80_any _ _ _ _ _ (hi1.drewN n) (hi2.drewN n)
          have HN : Hid (A.getD k [] ≠ B.getD k [] → A ≠ B) := Lib.hid (fun h => getD_ne (A := A) (B := B) (d := []) (k := k) h)
          have HK : Hid (A.getD k [] = B.getD k [] → ∀ j, j < k + 1 → A.getD j [] = B.getD j []) := Lib.hid (fun h => all_succ HZ.out h)
          obtain ⟨A3, c3, rfl, -, -, -⟩ := hr1.open_
          obtain ⟨A4, c4, rfl, -, -, -⟩ := hr2.open_
          clear hc1 hc2 hr1 hr2 hu1 hu2 hi1 hi2
          generalize A.getD k [] = x at *
          generalize B.getD k [] = y at *
          by_cases hxy : x = y
          · have HE : Hid (decide (x = y) = true) := Lib.hid (decide_eq_true hxy)
            have HK2 := Lib.hid (HK.out hxy)
            rw [HE.out] at HEQ
            clear hxy HN HK
            go_wp2_with fail
            go_quiet ((go_at_call 44; exact quiet_add_ex (HEQ.out _)))
            go_wp2_with fail
            go_roundw
            case rel => exact ⟨k + 1, by omega, by go_num, HK2, (by first | exact ⟨_, rfl⟩ | exact ex_drewN)⟩
            case measure => simp [intOf]; omega
          · have HE : Hid (decide (x = y) = false) := Lib.hid (decide_eq_false hxy)
            have HD : Hid (decide (g1 = g2 ∧ A = B) = false) := Lib.hid (decide_eq_false fun h => HN.out hxy h.2)
            rw [HE.out] at HEQ
            clear hxy HN HK
            go_wp2_with fail
            go_quiet ((go_at_call 44; exact quiet_add_ex (HEQ.out _)))
            go_wp2_with fail
            go_ret
            exact ⟨ret_bool HD.out.symm, below_drewN (below_drewN HBE.out _) _⟩
        · obtain rfl : k = A.length := by omega
          have HD : Hid (decide (g1 = g2 ∧ A = B) = true) := Lib.hid (decide_eq_true ⟨HG.out, getD_ext HL.out HZ.out⟩)
          go_wp2_with fail
          go_ret
          exact ⟨ret_bool HD.out.symm, below_drewN HBE.out _⟩
    · have d1 : ((A.length : Int) != (B.length : Int)) = true := by simp; omega
      have d2 : (A.length != B.length) = true := by simp; omega
      have HD : Hid (decide (g1 = g2 ∧ A = B) = false) := Lib.hid (decide_eq_false fun h => hl (by rw [h.2]))
      clear hl hg
      go_enter Tryz.func19, Tryz.ntmps19
      go_wp2_with fail
      go_ret
      exact ⟨ret_bool HD.out.symm, HBE.out⟩
  · have e1 : (g1 != g2) = true := by simpa using hg
    have HD : Hid (decide (g1 = g2 ∧ A = B) = false) := Lib.hid (decide_eq_false fun h => hg h.1)
    clear hg
    go_enter Tryz.func19, Tryz.ntmps19
    go_wp2_with fail
    go_ret
    exact ⟨ret_bool HD.out.symm, HBE.out⟩
end Go.Proofs
namespace Go.Proofs
open Go.RowKit Go.Shelf Go.Proofs.Ct Go.Maps
structure SameM (a0 : Act) (dm : Nat → Nat) (N : Nat) (a : Act) : Prop where
  size : a.tmps.size = a0.tmps.size
  defers : a.defers = a0.defers
  out : ∀ t, (∀ i, i < N → dm i ≠ t) → a.tmps.getD t undef = a0.tmps.getD t undef
theorem SameM.refl (a0 : Act) (dm : Nat → Nat) (N : Nat) : SameM a0 dm N a0 := ⟨rfl, rfl, fun _ _ => rfl⟩
theorem SameM.put {a0 a : Act} {dm : Nat → Nat} {N i : Nat} (h : SameM a0 dm N a) (hi : i < N) (v : Value) : SameM a0 dm N (a.put (some (dm i)) v) :=
  ⟨by simpa [Act.put] using h.size, h.defers, fun t ht => by rw [← h.out t ht, put_getD_ne _ _ _ _ (ht i hi)]⟩
structure Tailed1 (ops : Array Oper) (N : Nat) : Prop where
  size : ops.size = N + 1
  lex : ∀ (i : Nat) (o : Oper), ops[i]? = some o → ∀ e ∈ o.after.toList, e.on < i
  succ : ∀ i, i < N → ∃ (j : Nat) (o : Oper), i < j ∧ j ≤ N ∧ ops[j]? = some o ∧ ∃ e ∈ o.after.toList, e.on = i ∧ Region.binds .any e = true
def tailed1B (ops : Array Oper) (N : Nat) : Bool :=
  (ops.size == N + 1) && (List.range ops.size).all (fun i => match ops[i]? with | some o => o.after.toList.all fun e => decide (e.on < i) | none => true) &&
  (List.range N).all (fun i => (List.range (N + 1)).any fun j => decide (i < j) && (match ops[j]? with | some o => o.after.toList.any fun e => (e.on == i) && Region.binds .any e | none => false))
theorem tailed1_of {ops : Array Oper} {N : Nat} (h : tailed1B ops N = true) : Tailed1 ops N := by
  unfold tailed1B at h
  simp only [Bool.and_eq_true] at h
  obtain ⟨⟨h1, h2⟩, h3⟩ := h
  refine ⟨by simpa using h1, fun i o ho e he => ?_, fun i hi => ?_⟩
  · rw [List.all_eq_true] at h2
    have hi : i < ops.size := (Array.getElem?_eq_some_iff.1 ho).1
    have := h2 i (by simpa using hi)
    rw [ho] at this
    rw [List.all_eq_true] at this
    simpa using this e he
  · rw [List.all_eq_true] at h3
    have := h3 i (by simpa using hi)
    rw [List.any_eq_true] at this
    obtain ⟨j, hj, hjj⟩ := this
    rw [Bool.and_eq_true] at hjj
    obtain ⟨hij, hm⟩ := hjj
    cases ho : ops[j]? with
    | none => rw [ho] at hm; cases hm
    | some o =>
      rw [ho] at hm
      rw [List.any_eq_true] at hm
      obtain ⟨e, he, hee⟩ := hm
      rw [Bool.and_eq_true] at hee
      exact ⟨j, o, by simpa using hij, by simp at hj; omega, ho, e, he, by simpa using hee.1, hee.2⟩
section
variable {F : Fence} {n : Nat} {P : Program} {ops : Array Oper} {Q : Exit → Act → World → Prop}
theorem Tailed1.before {N : Nat} (ht : Tailed1 ops N) {listed : Array Bool} (hc : Closed ops listed) {o : Oper} (ho : ops[N]? = some o) (hp : ∀ e ∈ o.after.toList, Region.binds .any e = true → listed.getD e.on false = true) :
    ∀ k i, i < N → N - i ≤ k → listed.getD i false = true := by
  intro k
  induction k with
  | zero => intro i hi hk; omega
  | succ k ih =>
    intro i hi hk
    obtain ⟨j, oj, hij, hjN, hoj, e, he, rfl, hb⟩ := ht.succ i hi
    rcases Nat.lt_or_ge j N with h | h
    · exact hc j oj hoj (ih j h (by omega)) e he hb
    · have : j = N := by omega
      subst this
      rw [ho] at hoj
      cases hoj
      exact hp e he hb
theorem wpIn_region_g {id : Nat} {a0 : Act} {w : World} (hm : P.follows .mixedOrders = true) (dm : Nat → Nat) (N : Nat) (ht : Tailed1 ops N) (S : (Nat → Bool) → World → Prop) (Φ : Nat → Value → World → Prop) (G : Nat → World → World → Prop)
    (hdm : ∀ i j, i < N → j < N → dm i = dm j → i = j)
    (hΦ : ∀ i j v w w', i < N → j < N → i ≠ j → G i w w' → Φ j v w → Φ j v w')
    (hsz : ∀ i, i < N → dm i < a0.tmps.size) (h0 : S (fun _ => false) w.drew)
    (hop : ∀ (ls : Nat → Bool) (i : Nat) (o : Oper) (a : Act) (w : World), i < N → ops[i]? = some o → S ls w → ls i = false → SameM a0 dm N a → (∀ e ∈ o.after.toList, Region.binds .any e = true → Φ e.on (a.tmps.getD (dm e.on) undef) w) →
      wpOpIn F n P ops Q i (fun a' w' => ∃ v, a' = a.put (some (dm i)) v ∧ S (fun j => if i = j then true else ls j) w' ∧ G i w w' ∧ Φ i v w') a w)
    (hend : ∀ (ls : Nat → Bool) (a : Act) (w : World), S ls w → (∀ i, i < N → ls i = true) → SameM a0 dm N a → (∀ i, i < N → Φ i (a.tmps.getD (dm i) undef) w) →
      wpOpIn F n P ops Q N (fun a' w' => Q .normal a' w') a w) :
    (Code.region id ops true).wpIn F n P Q a0 w := by
  refine wpIn_region_any hm ?_
  have hsize := ht.size
  refine wpAnyIn_inv (fun listed a w => Closed ops listed ∧
      ((listed.getD N false = false ∧ S (fun j => listed.getD j false) w ∧ SameM a0 dm N a ∧ ∀ i, i < N → listed.getD i false = true → Φ i (a.tmps.getD (dm i) undef) w) ∨
       (listed.getD N false = true ∧ Q .normal a w))) ?_ ?_ ops.size _ a0 _ (by simp) ?_ ⟨fun i o ho h => ?_, .inl ⟨?_, by rw [show (fun j => (Array.replicate ops.size false).getD j false) = (fun _ => false) from funext fun j => by simp only [Array.getD_eq_getD_getElem?, Array.getElem?_replicate]; split <;> rfl]; exact h0, SameM.refl _ _ _, fun i hi h => ?_⟩⟩
  · rintro listed a w i hls ⟨hcl, hI⟩ hi
    obtain ⟨h1, h2, o, ho, hpre⟩ := ready_mem hi
    rw [getD_true_false (by omega)] at h2
    have hcl' : Closed ops (listed.setIfInBounds i true) := fun j oj hoj hl e he hb => by
      rw [getD_set_listed (by omega)] at hl ⊢
      by_cases eij : i = j
      · subst eij
        rw [ho] at hoj; cases hoj
        have := hpre e he hb
        split
        · rfl
        · exact this
      · rw [if_neg eij] at hl
        have := hcl j oj hoj hl e he hb
        split
        · rfl
        · exact this
    have hsetD : ∀ j, (listed.setIfInBounds i true).getD j false = if i = j then true else listed.getD j false := fun j => getD_set_listed (by omega)
    rcases hI with ⟨hN, hS, hsame, hsl⟩ | ⟨hN, hQ⟩
    · rcases Nat.lt_or_ge i N with hiN | hiN
      · have hwp := hop _ i o a w hiN ho hS h2 hsame (fun e he hb => by
          have hl := hpre e he hb
          have hlt := ht.lex i o ho e he
          exact hsl e.on (by omega) hl)
        refine wpOpIn_mono (fun a' w' h => ?_) hwp
        obtain ⟨v, rfl, hS', hG, hv⟩ := h
        refine ⟨hcl', .inl ⟨by rw [hsetD, if_neg (by omega)]; exact hN, by rw [show (fun j => (listed.setIfInBounds i true).getD j false) = (fun j => if i = j then true else listed.getD j false) from funext hsetD]; exact hS', hsame.put hiN v, fun j hj hl => ?_⟩⟩
        by_cases e : i = j
        · subst e
          rw [put_getD_same _ _ _ (by rw [hsame.size]; exact hsz i hj)]
          exact hv
        · rw [put_getD_ne _ _ _ _ (fun h => e (hdm i j hiN hj h))]
          rw [hsetD, if_neg e] at hl
          exact hΦ i j _ _ _ hiN hj e hG (hsl j hj hl)
      · have hi2 : i = N := by omega
        subst hi2
        have hall := ht.before hcl ho hpre
        refine wpOpIn_mono (fun a' w' h => ?_) (hend _ a w hS (fun j hj => hall _ j hj (Nat.le_refl _)) hsame (fun j hj => hsl j hj (hall _ j hj (Nat.le_refl _))))
        exact ⟨hcl', .inr ⟨by rw [hsetD, if_pos rfl], h⟩⟩
    · rcases Nat.lt_or_ge i N with hiN | hiN
      · obtain ⟨oN, hoN⟩ : ∃ o, ops[N]? = some o := ⟨ops[N]'(by omega), Array.getElem?_eq_getElem (by omega)⟩
        have := ht.before hcl hoN (hcl N oN hoN hN) _ i hiN (Nat.le_refl _)
        rw [h2] at this; cases this
      · have hi2 : i = N := by omega
        subst hi2
        rw [h2] at hN; cases hN
  · rintro listed a w hls ⟨hcl, hI⟩ hr
    have hready : ∀ i, i < ops.size → listed.getD i false = true := by
      intro i
      induction i using Nat.strongRecOn with
      | _ i ih =>
        intro hi
        rcases hl : listed.getD i false with _ | _
        · have hmem : i ∈ Region.ready .any ops listed := by
            simp only [Region.ready, List.mem_filter, List.mem_range, Bool.and_eq_true, Bool.not_eq_true']
            refine ⟨hi, by rw [getD_true_false (by omega)]; exact hl, ?_⟩
            rw [Array.getElem?_eq_getElem hi]
            simp only [Option.map_some, Option.getD_some]
            rw [Array.all_eq_true_iff_forall_mem]
            intro e he
            have hlt := ht.lex i _ (Array.getElem?_eq_getElem hi) e (by simpa using he)
            simp [ih e.on hlt (by omega)]
          rw [hr] at hmem; cases hmem
        · rfl
    rcases hI with ⟨hN, _⟩ | ⟨_, hQ⟩
    · rw [hready N (by omega)] at hN; cases hN
    · exact hQ
  · simp
  · have : (Array.replicate ops.size false).getD i false = false := by
      simp only [Array.getD_eq_getD_getElem?, Array.getElem?_replicate]; split <;> rfl
    rw [this] at h; cases h
  · simp only [Array.getD_eq_getD_getElem?, Array.getElem?_replicate]; split <;> rfl
  · have : (Array.replicate ops.size false).getD i false = false := by
      simp only [Array.getD_eq_getD_getElem?, Array.getElem?_replicate]; split <;> rfl
    rw [this] at h; cases h
end
section
variable {n : Nat} {ops : Array Oper} {Q : Exit → Act → World → Prop} {i : Nat} {o : Oper} {K : Act → World → Prop} {a : Act} {w : World}
theorem yielded_of {g t : Nat} {b : Bool} {og : Oper} (hg : ops[g]? = some og) (hd : og.dst = some t) (ht : t < a.tmps.size) (hv : a.tmps.getD t undef = .bool b) : yielded ops a.tmps g = some b := by
  have h1 : a.tmps[t]? = some (.bool b) := by
    rw [Array.getElem?_eq_getElem ht]
    rw [Array.getD_eq_getD_getElem?, Array.getElem?_eq_getElem ht] at hv
    simpa using hv
  unfold yielded
  simp [hg, hd, h1]
theorem wpOpIn_yes {g : Nat} {b : Bool} (ho : ops[i]? = some o) (hg : o.guard = some (g, b)) (hy : yielded ops a.tmps g = some b) (h : o.wpIn Fence.wide n Tryz.prog a w K Q) : wpOpIn Fence.wide n Tryz.prog ops Q i K a w := by
  unfold wpOpIn
  rw [ho]
  simp only [Region.wanted, hg, hy]
  rw [if_pos (by cases b <;> simp)]
  exact h
theorem r_pick {v : Value} (x y z : Operand) (b : Bool) (ho : o.op = .pick x y z) (hx : a.eval x = .bool b) (hv : (if b then a.eval y else a.eval z) = v) : (execOp a.eval o).run Tryz.prog w = .ok (.value v) w := by
  unfold execOp
  simp only [ho, hx]
  cases b <;> simp_all <;> rfl
end
theorem SameM.frame {a0 a : Act} {dm : Nat → Nat} {N : Nat} (h : SameM a0 dm N a) (n : Nat) (hn : a0.tmps.size = n) :
    a = { tmps := ((List.range n).map fun t => if (List.range N).any (fun i => dm i == t) then a.tmps.getD t undef else a0.tmps.getD t undef).toArray, defers := a0.defers } := by
  obtain ⟨t, d⟩ := a
  have hd := h.defers
  have hs := h.size
  have ho := h.out
  simp only at hd hs ho
  subst hd
  congr 1
  apply Array.ext'
  apply List.ext_getElem?
  intro i
  show t.toList[i]? = (List.map _ (List.range n))[i]?
  rw [List.getElem?_map]
  rcases Nat.lt_or_ge i n with hi | hi
  · rw [List.getElem?_range hi]
    have hti : i < t.size := by omega
    simp only [Option.map_some]
    have hg : t.toList[i]? = some (t.getD i undef) := by simp [Array.getD_eq_getD_getElem?, hti]
    rw [hg]
    refine congrArg some ?_
    by_cases hx : (List.range N).any (fun q => dm q == i) = true
    · rw [if_pos hx]
    · rw [if_neg hx]
      refine ho i (fun j hj e => hx ?_)
      rw [List.any_eq_true]
      exact ⟨j, by simpa using hj, by simpa using e⟩
  · rw [List.getElem?_eq_none (by simpa using (by omega : t.size ≤ i)), List.getElem?_eq_none (by simpa using hi)]
    rfl
theorem SameM.frameV {a0 a : Act} {dm : Nat → Nat} {N : Nat} (h : SameM a0 dm N a) (n : Nat) (hn : a0.tmps.size = n) :
    ∃ vs : Nat → Value, (∀ t, vs t = a.tmps.getD t undef) ∧ a = { tmps := ((List.range n).map fun t => if (List.range N).any (fun i => dm i == t) then vs t else a0.tmps.toList.getD t undef).toArray, defers := a0.defers } := by
  refine ⟨fun t => a.tmps.getD t undef, fun _ => rfl, (h.frame n hn).trans ?_⟩
  have : ∀ t, a0.tmps.getD t undef = a0.tmps.toList.getD t undef := fun t => by simp [Array.getD_eq_getD_getElem?, List.getD_eq_getElem?_getD]
  simp only [this]
section
variable {o : Oper} {a : Act} {w w' : World} {n : Nat} {next : Act → World → Prop} {Q : Exit → Act → World → Prop} {v : Value}
theorem wpW_val (hrun : (execOp a.eval o).run Tryz.prog w = .ok (.value v) w') (h : next (a.put o.dst v) w') : o.wpIn Fence.wide n Tryz.prog a w next Q :=
  ⟨fun _ _ => trivial, by rw [Fence.wide_round, Oper.semAt_none, hrun]; exact h⟩
theorem wpW_call {f : FuncId} {args : Array Value} {R : Value → World → Prop} (hrun : (execOp a.eval o).run Tryz.prog w = .ok (.enter f args) w')
    (hc : Calls Tryz.prog f args w' fun e w'' => ∃ v, e = .returned v ∧ R v w'') (h : ∀ v w'', R v w'' → next (a.put o.dst v) w'') : o.wpIn Fence.wide n Tryz.prog a w next Q :=
  ⟨fun _ _ => trivial, by
    rw [Fence.wide_round, Oper.semAt_none, hrun]
    refine ⟨fun hh => by simp [Fence.wide] at hh, callsIn_wide.2 (hc.mono ?_)⟩
    rintro e w'' ⟨v, rfl, hR⟩
    exact h v w'' hR⟩
end
end Go.Proofs
namespace Go.Proofs
open Go.RowKit Go.Shelf Go.Proofs.Ct Go.Maps
structure Part (a0 : Act) (dm : Nat → Option Tmp) (N : Nat) (ls : Nat → Bool) (a : Act) : Prop where
  size : a.tmps.size = a0.tmps.size
  defers : a.defers = a0.defers
  out : ∀ t, (∀ i, i < N → ls i = true → dm i ≠ some t) → a.tmps.getD t undef = a0.tmps.getD t undef
theorem Part.put {a0 a : Act} {dm : Nat → Option Tmp} {N i : Nat} {ls : Nat → Bool} (h : Part a0 dm N ls a) (hi : i < N) (v : Value) : Part a0 dm N (fun j => if i = j then true else ls j) (a.put (dm i) v) := by
  refine ⟨?_, ?_, fun t ht => ?_⟩
  · cases hd : dm i with
    | none => exact h.size
    | some t => simpa [Act.put] using h.size
  · cases hd : dm i with
    | none => exact h.defers
    | some t => exact h.defers
  · have h1 : ∀ j, j < N → ls j = true → dm j ≠ some t := fun j hj hl => ht j hj (by simp [hl])
    have h2 := ht i hi (by rw [if_pos rfl])
    rw [← h.out t h1]
    cases hd : dm i with
    | none => rfl
    | some t' => exact put_getD_ne _ _ _ _ (fun e => h2 (by rw [hd, e]))
def slotv (a : Act) : Option Tmp → Value
  | some t => a.tmps.getD t undef
  | none => undef
def lexB (ops : Array Oper) : Bool := (List.range ops.size).all fun i => match ops[i]? with | some o => o.after.toList.all fun e => decide (e.on < i) || !Region.binds .any e | none => true
theorem lex_of {ops : Array Oper} (h : lexB ops = true) : ∀ (i : Nat) (o : Oper), ops[i]? = some o → ∀ e ∈ o.after.toList, Region.binds .any e = true → e.on < i := fun i o ho e he hb => by
  unfold lexB at h
  rw [List.all_eq_true] at h
  have hi : i < ops.size := (Array.getElem?_eq_some_iff.1 ho).1
  have := h i (by simpa using hi)
  rw [ho] at this
  rw [List.all_eq_true] at this
  have h2 := this e he
  rw [hb] at h2
  simpa using h2
section
variable {F : Fence} {n : Nat} {P : Program} {ops : Array Oper} {Q : Exit → Act → World → Prop}
theorem wpIn_region_all {id : Nat} {a0 : Act} {w : World} (hm : P.follows .mixedOrders = true) (N : Nat) (hN : ops.size = N) (dm : Nat → Option Tmp) (hlex : ∀ (i : Nat) (o : Oper), ops[i]? = some o → ∀ e ∈ o.after.toList, Region.binds .any e = true → e.on < i)
    (S : (Nat → Bool) → World → Prop) (Φ : Nat → Value → World → Prop) (G : Nat → World → World → Prop)
    (hdm : ∀ i j t, i < N → j < N → dm i = some t → dm j = some t → i = j)
    (hΦ : ∀ i j v w w', i < N → j < N → i ≠ j → G i w w' → Φ j v w → Φ j v w')
    (hsz : ∀ i t, i < N → dm i = some t → t < a0.tmps.size) (h0 : S (fun _ => false) w.drew)
    (hop : ∀ (ls : Nat → Bool) (i : Nat) (o : Oper) (a : Act) (w : World), i < N → ops[i]? = some o → S ls w → ls i = false → (∀ (j : Nat) (oj : Oper), ops[j]? = some oj → ls j = true → ∀ e ∈ oj.after.toList, Region.binds .any e = true → ls e.on = true) → Part a0 dm N ls a →
      (∀ e ∈ o.after.toList, Region.binds .any e = true → ls e.on = true ∧ Φ e.on (slotv a (dm e.on)) w) →
      wpOpIn F n P ops Q i (fun a' w' => ∃ v, a' = a.put (dm i) v ∧ S (fun j => if i = j then true else ls j) w' ∧ G i w w' ∧ (dm i = none → v = undef) ∧ Φ i v w') a w)
    (hend : ∀ (ls : Nat → Bool) (a : Act) (w : World), (∀ i, i < N → ls i = true) → S ls w → Part a0 dm N ls a → (∀ i, i < N → Φ i (slotv a (dm i)) w) → Q .normal a w) :
    (Code.region id ops true).wpIn F n P Q a0 w := by
  subst hN
  refine wpIn_region_any hm ?_
  refine wpAnyIn_inv (fun listed a w => Closed ops listed ∧ S (fun j => listed.getD j false) w ∧ Part a0 dm ops.size (fun j => listed.getD j false) a ∧ ∀ i, i < ops.size → listed.getD i false = true → Φ i (slotv a (dm i)) w) ?_ ?_ ops.size _ a0 _ (by simp) ?_ ⟨fun i o ho h => ?_, ?_, ⟨rfl, rfl, fun _ _ => rfl⟩, fun i hi h => ?_⟩
  · rintro listed a w i hls ⟨hcl, hS, hP, hsl⟩ hi
    obtain ⟨h1, h2, o, ho, hpre⟩ := ready_mem hi
    rw [getD_true_false (by omega)] at h2
    have hsetD : ∀ j, (listed.setIfInBounds i true).getD j false = if i = j then true else listed.getD j false := fun j => getD_set_listed (by omega)
    have hcl' : Closed ops (listed.setIfInBounds i true) := fun j oj hoj hl e he hb => by
      rw [hsetD] at hl ⊢
      by_cases eij : i = j
      · subst eij
        rw [ho] at hoj; cases hoj
        have := hpre e he hb
        split
        · rfl
        · exact this
      · rw [if_neg eij] at hl
        have := hcl j oj hoj hl e he hb
        split
        · rfl
        · exact this
    have hwp := hop _ i o a w h1 ho hS h2 (fun j oj hoj hl => hcl j oj hoj hl) hP (fun e he hb => ⟨hpre e he hb, hsl e.on (by have := hlex i o ho e he hb; omega) (hpre e he hb)⟩)
    refine wpOpIn_mono (fun a' w' h => ?_) hwp
    obtain ⟨v, rfl, hS', hG, hvn, hv⟩ := h
    rw [show (fun j => if i = j then true else listed.getD j false) = (fun j => (listed.setIfInBounds i true).getD j false) from (funext hsetD).symm] at hS'
    have hP' := hP.put h1 v
    rw [show (fun j => if i = j then true else listed.getD j false) = (fun j => (listed.setIfInBounds i true).getD j false) from (funext hsetD).symm] at hP'
    refine ⟨hcl', hS', hP', fun j hj hl => ?_⟩
    by_cases e : i = j
    · subst e
      have : slotv (a.put (dm i) v) (dm i) = v := by
        cases hdi : dm i with
        | none => rw [hvn hdi]; rfl
        | some t => exact put_getD_same _ _ _ (by rw [hP.size]; exact hsz i t h1 hdi)
      rw [this]
      exact hv
    · rw [hsetD, if_neg e] at hl
      have := hΦ i j _ _ _ h1 hj e hG (hsl j hj hl)
      have hv' : slotv (a.put (dm i) v) (dm j) = slotv a (dm j) := by
        cases hdj : dm j with
        | none => rfl
        | some t =>
          cases hdi : dm i with
          | none => rfl
          | some t' => exact put_getD_ne _ _ _ _ (fun e' => e (hdm i j t h1 hj (by rw [hdi, e']) hdj))
      rw [hv']
      exact this
  · rintro listed a w hls ⟨hcl, hS, hP, hsl⟩ hr
    have hready : ∀ i, i < ops.size → listed.getD i false = true := by
      intro i
      induction i using Nat.strongRecOn with
      | _ i ih =>
        intro hi
        rcases hl : listed.getD i false with _ | _
        · have hmem : i ∈ Region.ready .any ops listed := by
            simp only [Region.ready, List.mem_filter, List.mem_range, Bool.and_eq_true, Bool.not_eq_true']
            refine ⟨hi, by rw [getD_true_false (by omega)]; exact hl, ?_⟩
            rw [Array.getElem?_eq_getElem hi]
            simp only [Option.map_some, Option.getD_some]
            rw [Array.all_eq_true_iff_forall_mem]
            intro e he
            by_cases hb : Region.binds .any e = true
            · have hlt := hlex i _ (Array.getElem?_eq_getElem hi) e (by simpa using he) hb
              simp [ih e.on hlt (by omega)]
            · simp [hb]
          rw [hr] at hmem; cases hmem
        · rfl
    exact hend _ a w hready hS hP (fun i hi => hsl i hi (hready i hi))
  · simp
  · have : (Array.replicate ops.size false).getD i false = false := by
      simp only [Array.getD_eq_getD_getElem?, Array.getElem?_replicate]; split <;> rfl
    rw [this] at h; cases h
  · rw [show (fun j => (Array.replicate ops.size false).getD j false) = (fun _ => false) from funext fun j => by simp only [Array.getD_eq_getD_getElem?, Array.getElem?_replicate]; split <;> rfl]
    exact h0
  · have : (Array.replicate ops.size false).getD i false = false := by
      simp only [Array.getD_eq_getD_getElem?, Array.getElem?_replicate]; split <;> rfl
    rw [this] at h; cases h
end
theorem not_yet {ops : Array Oper} {ls : Nat → Bool} (hcl : ∀ (j : Nat) (oj : Oper), ops[j]? = some oj → ls j = true → ∀ e ∈ oj.after.toList, Region.binds .any e = true → ls e.on = true) (j : Nat) {oj : Oper} (hoj : ops[j]? = some oj) (e : Edge) (he : e ∈ oj.after.toList) (hb : Region.binds .any e = true) (h : ls e.on = false) : ls j = false := by
  cases hj : ls j with
  | false => rfl
  | true => rw [hcl j oj hoj hj e he hb] at h; cases h
theorem dm_out {dm : Nat → Option Tmp} {N t : Nat} {ls : Nat → Bool} (h : (List.range N).all (fun i => !(dm i == some t)) = true) : ∀ i, i < N → ls i = true → dm i ≠ some t := fun i hi _ e => by
  rw [List.all_eq_true] at h
  have := h i (by simpa using hi)
  rw [e] at this
  simp at this
theorem dm_out1 {dm : Nat → Option Tmp} {N t k : Nat} {ls : Nat → Bool} (hk : ls k = false) (h : (List.range N).all (fun i => !(dm i == some t) || i == k) = true) : ∀ i, i < N → ls i = true → dm i ≠ some t := fun i hi hl e => by
  rw [List.all_eq_true] at h
  have := h i (by simpa using hi)
  rw [e] at this
  have h2 : i = k := by simpa using this
  rw [h2, hk] at hl
  cases hl
theorem dm_inj {dm : Nat → Option Tmp} {N : Nat} (h : (List.range N).all (fun i => (List.range N).all fun j => (i == j) || (dm i == none) || !(dm i == dm j)) = true) : ∀ i j t, i < N → j < N → dm i = some t → dm j = some t → i = j := fun i j t hi hj e1 e2 => by
  rw [List.all_eq_true] at h
  have h1 := h i (by simpa using hi)
  rw [List.all_eq_true] at h1
  have h2 := h1 j (by simpa using hj)
  rw [e1, e2] at h2
  simpa using h2
theorem dm_lt {dm : Nat → Option Tmp} {N n : Nat} (h : (List.range N).all (fun i => match dm i with | some t => decide (t < n) | none => true) = true) : ∀ i t, i < N → dm i = some t → t < n := fun i t hi e => by
  rw [List.all_eq_true] at h
  have := h i (by simpa using hi)
  rw [e] at this
  simpa using this
theorem Part.frame {a0 a : Act} {dm : Nat → Option Tmp} {N : Nat} {ls : Nat → Bool} (h : Part a0 dm N ls a) (n : Nat) (hn : a0.tmps.size = n) :
    ∃ vs : Nat → Value, (∀ t, vs t = a.tmps.getD t undef) ∧ a = { tmps := ((List.range n).map fun t => if (List.range N).any (fun i => dm i == some t) then vs t else a0.tmps.toList.getD t undef).toArray, defers := a0.defers } := by
  refine ⟨fun t => a.tmps.getD t undef, fun _ => rfl, ?_⟩
  obtain ⟨t, d⟩ := a
  have hd := h.defers
  have hs := h.size
  have ho := h.out
  simp only at hd hs ho
  subst hd
  congr 1
  apply Array.ext'
  apply List.ext_getElem?
  intro i
  rcases Nat.lt_or_ge i n with hi | hi
  · have hit : i < t.size := by omega
    have hg : t.toList[i]? = some (t.getD i undef) := by simp [Array.getD, hit]
    rw [hg]
    simp only [List.getElem?_map, List.getElem?_range hi, Option.map_some]
    congr 1
    by_cases hx : (List.range N).any (fun q => dm q == some i) = true
    · rw [if_pos hx]
    · rw [if_neg hx]
      rw [ho i (fun j hj _ e => hx ?_)]
      · simp [Array.getD_eq_getD_getElem?, List.getD_eq_getElem?_getD]
      · rw [List.any_eq_true]
        exact ⟨j, by simpa using hj, by simpa using e⟩
  · rw [List.getElem?_eq_none (by simpa using (by omega : t.size ≤ i)), List.getElem?_eq_none (by simpa using hi)]
end Go.Proofs
namespace Go.Proofs
open Go.RowKit Go.Shelf Go.Proofs.Ct Go.Maps
section
variable {o : Oper} {a : Act} {w w' : World} {n : Nat} {next : Act → World → Prop} {Q : Exit → Act → World → Prop} {v : Value}
theorem wpW_skip (hrun : (execOp a.eval o).run Tryz.prog w = .ok .skip w') (h : next (a.put o.dst undef) w') : o.wpIn Fence.wide n Tryz.prog a w next Q :=
  ⟨fun _ _ => trivial, by rw [Fence.wide_round, Oper.semAt_none, hrun]; exact h⟩
theorem r_nil (x : Operand) (ad : Addr) (ho : o.op = .nilCheck x) (hx : a.eval x = .pointer (some ad)) : (execOp a.eval o).run Tryz.prog w = .ok (.value (.pointer (some ad))) w := by
  unfold execOp; simp only [ho, hx]; rfl
theorem agg3 (w : World) : (isAgg 3).run Tryz.prog w = .ok false w := by kernel_rfl
theorem agg22 (w : World) : (isAgg 28).run Tryz.prog w = .ok false w := by kernel_rfl
theorem agg23 (w : World) : (isAgg 29).run Tryz.prog w = .ok false w := by kernel_rfl
theorem agg24 (w : World) : (isAgg 22).run Tryz.prog w = .ok false w := by kernel_rfl
theorem r_load1 (T : TypeId) (hT : ∀ w, (isAgg T).run Tryz.prog w = .ok false w) (x : Operand) (ad : Addr) (ho : o.op = .load T x) (hx : a.eval x = .pointer (some ad)) (hc : w.cell? ad = some v) : (execOp a.eval o).run Tryz.prog w = .ok (.value v) w := by
  unfold execOp
  simp only [ho, hx, Instr.loadAt, Instr.sureAddr, loadVar, Sem.run_bind, Sem.run_pure, Result.andThen_ok, hT]
  simp [go_sem, hc]
theorem fld116_0 (b : Nat) (w : World) : (Instr.fieldAt 84 (.pointer (some ⟨b, 0, none⟩)) 0).run Tryz.prog w = .ok (.pointer (some ⟨b, 0, none⟩)) w := by kernel_rfl
theorem fld116_2 (b : Nat) (w : World) : (Instr.fieldAt 84 (.pointer (some ⟨b, 0, none⟩)) 2).run Tryz.prog w = .ok (.pointer (some ⟨b, 2, none⟩)) w := by kernel_rfl
theorem fld116_3 (b : Nat) (w : World) : (Instr.fieldAt 84 (.pointer (some ⟨b, 0, none⟩)) 3).run Tryz.prog w = .ok (.pointer (some ⟨b, 3, none⟩)) w := by kernel_rfl
theorem fld116_5 (b : Nat) (w : World) : (Instr.fieldAt 84 (.pointer (some ⟨b, 0, none⟩)) 5).run Tryz.prog w = .ok (.pointer (some ⟨b, 5, none⟩)) w := by kernel_rfl
theorem fld116_6 (b : Nat) (w : World) : (Instr.fieldAt 84 (.pointer (some ⟨b, 0, none⟩)) 6).run Tryz.prog w = .ok (.pointer (some ⟨b, 6, none⟩)) w := by kernel_rfl
theorem fld124_0 (b : Nat) (w : World) : (Instr.fieldAt 102 (.pointer (some ⟨b, 0, none⟩)) 0).run Tryz.prog w = .ok (.pointer (some ⟨b, 0, none⟩)) w := by kernel_rfl
theorem fld124_1 (b : Nat) (w : World) : (Instr.fieldAt 102 (.pointer (some ⟨b, 0, none⟩)) 1).run Tryz.prog w = .ok (.pointer (some ⟨b, 1, none⟩)) w := by kernel_rfl
theorem fld124_4 (b : Nat) (w : World) : (Instr.fieldAt 102 (.pointer (some ⟨b, 0, none⟩)) 4).run Tryz.prog w = .ok (.pointer (some ⟨b, 4, none⟩)) w := by kernel_rfl
theorem fld124_5 (b : Nat) (w : World) : (Instr.fieldAt 102 (.pointer (some ⟨b, 0, none⟩)) 5).run Tryz.prog w = .ok (.pointer (some ⟨b, 5, none⟩)) w := by kernel_rfl
theorem idx_sl {T E : TypeId} (hu : Tryz.prog.underlying T = some (.slice E)) (hs : ∀ w, (sizeOf E).run Tryz.prog w = .ok 1 w) (g m c i : Nat) (hi : i < m) (w : World) :
    (Instr.indexAt T (.slice (some ⟨g, 0, none⟩) m c) (.int .i64 (i : Int))).run Tryz.prog w = .ok (.pointer (some ⟨g, i, none⟩)) w := by
  have h1 : (0 : Int) ≤ (i : Int) ∧ (i : Int) < (m : Int) := ⟨by omega, by omega⟩
  have h2 := Addr.add_mid g 0 i
  rw [Nat.zero_add] at h2
  simp [Instr.indexAt, asIntOf, run_underlying hu, hs, h2, hi]
theorem size3 (w : World) : (sizeOf 3).run Tryz.prog w = .ok 1 w := by kernel_rfl
theorem size24 (w : World) : (sizeOf 22).run Tryz.prog w = .ok 1 w := by kernel_rfl
theorem r_idx {T : Nat} (x y : Operand) (ad i : Value) (ho : o.op = .indexAddr T x y) (hx : a.eval x = ad) (hy : a.eval y = i) (hf : (Instr.indexAt T ad i).run Tryz.prog w = .ok v w) : (execOp a.eval o).run Tryz.prog w = .ok (.value v) w := by
  unfold execOp; simp only [ho, hx, hy, Sem.run_bind, hf, Result.andThen_ok]; rfl
theorem r_store1 (T : TypeId) (x y : Operand) (ad : Addr) (u v : Value) (ho : o.op = .store T x y) (hx : a.eval x = .pointer (some ad)) (hy : a.eval y = v) (_h1 : ad.spot = none) (_hc : w.cell? ad = some u) (_hf : w.frozen? ad = false) (ht : (Instr.storeAt T (.pointer (some ad)) v).run Tryz.prog w = .ok () (w.setCell ad v)) : (execOp a.eval o).run Tryz.prog w = .ok .skip (w.setCell ad v) := by
  unfold execOp
  simp only [ho, hx, hy, Sem.run_bind, ht, Result.andThen_ok]
  rfl
theorem st3 (ad : Addr) (x y : Int) (hc : w.cell? ad = some (.int .i64 x)) (hf : w.frozen? ad = false) : (Instr.storeAt 3 (.pointer (some ad)) (.int .i64 y)).run Tryz.prog w = .ok () (w.setCell ad (.int .i64 y)) := by
  simp [Instr.storeAt, Instr.sureAddr, go_sem, hc, hf]
theorem st24 (ad : Addr) (u : Value) (A : Option Addr) (m c : Nat) (hc : w.cell? ad = some u) (hf : w.frozen? ad = false) : (Instr.storeAt 22 (.pointer (some ad)) (.slice A m c)).run Tryz.prog w = .ok () (w.setCell ad (.slice A m c)) := by
  simp [Instr.storeAt, Instr.sureAddr, go_sem, hc, hf]
theorem st22 (ad : Addr) (u : Value) (A : Option Addr) (m c : Nat) (hc : w.cell? ad = some u) (hf : w.frozen? ad = false) : (Instr.storeAt 28 (.pointer (some ad)) (.slice A m c)).run Tryz.prog w = .ok () (w.setCell ad (.slice A m c)) := by
  simp [Instr.storeAt, Instr.sureAddr, go_sem, hc, hf]
end
end Go.Proofs
namespace Go.Proofs
open Go.RowKit Go.Shelf Go.Proofs.Ct Go.Maps
structure BoxP (b wd lim : Nat) (w : World) (s : St) (vr vp vq : Value) : Prop where
  box : w.heap[b]? = some (.cells #[.int .i64 (wd : Int), .int .i64 (lim : Int), vr, vp, vq, .int .i64 s.live, .int .i64 s.most] 84 (0, 0))
theorem BoxP.cells {b wd lim : Nat} {w : World} {s : St} {vr vp vq : Value} (h : BoxP b wd lim w s vr vp vq) : w.cell? ⟨b, 0, none⟩ = some (.int .i64 (wd : Int)) ∧ w.cell? ⟨b, 1, none⟩ = some (.int .i64 (lim : Int)) ∧ w.cell? ⟨b, 2, none⟩ = some vr ∧ w.cell? ⟨b, 3, none⟩ = some vp ∧ w.cell? ⟨b, 4, none⟩ = some vq ∧ w.cell? ⟨b, 5, none⟩ = some (.int .i64 s.live) ∧ w.cell? ⟨b, 6, none⟩ = some (.int .i64 s.most) := by
  have hc := h.box
  refine ⟨?_, ?_, ?_, ?_, ?_, ?_, ?_⟩ <;> (rw [cell_of_row _ _ _ _ _ _ hc]; rfl)
theorem BoxP.below {b wd lim : Nat} {w w' : World} {s : St} {vr vp vq : Value} (h : BoxP b wd lim w s vr vp vq) (hb : Below w.heap.size w w') : BoxP b wd lim w' s vr vp vq := ⟨(hb.block _ (Array.getElem?_eq_some_iff.1 h.box).1).trans h.box⟩
theorem BoxP.other {b wd lim : Nat} {w : World} {s : St} {vr vp vq : Value} (h : BoxP b wd lim w s vr vp vq) {g : Nat} {T : TypeId} (hg : ∃ C, w.heap[g]? = some (.cells C T (0, 0))) (hT : T ≠ 84) (k : Nat) (v : Value) : BoxP b wd lim (w.setCell ⟨g, k, none⟩ v) s vr vp vq :=
  ⟨(Below.heap_setCell w ⟨g, k, none⟩ v b (fun e => by
    obtain ⟨C, hC⟩ := hg
    have e' : b = g := e
    have := h.box
    rw [e', hC] at this
    cases this
    exact hT rfl)).trans h.box⟩
def HeldP (base b wd lim : Nat) (w : World) (s : St) (vr vp vq : Value) (bl cs : Nat → Nat) (wr : World) : Prop := ∃ P', BoxP b wd lim wr s vr vp vq ∧ CoreM base wr s P' vr vp vq bl cs ∧ Below base w wr
def StP (base b wd lim : Nat) (w : World) (s : St) : Prop := base ≤ b ∧ ∃ P vr vp vq bl cs, BoxP b wd lim w s vr vp vq ∧ CoreM base w s P vr vp vq bl cs
set_option maxRecDepth 100000 in
set_option maxHeartbeats 1000000 in
theorem find156_any (g base b wd lim c : Nat) (w : World) (s : St) (hI : Inv g s) (hS : StP base b wd lim w s) (hc : c < s.t.length) (hn : s.t.length ≤ 1000000) :
    Calls Tryz.prog 107 #[.pointer (some ⟨b, 0, none⟩), .int .i64 (c : Int)] w fun e w' => e = .returned (.int .i64 (s.rp c : Int)) ∧ StP base b wd lim w' s ∧ Below base w w' := by
  obtain ⟨hb, P, vr, vp, vq, bl, cs, hB, hC⟩ := hS
  obtain ⟨gp, cp, rfl, hg1, hg2, -, -⟩ := ownI_cell hC.par (by rw [hC.len]; omega)
  have HB := Lib.hid hB
  have HC := Lib.hid hC
  have HI := Lib.hid hI
  have hPl := hC.len
  rw [hPl] at HB HC
  have HBB := Lib.hid hb
  have HBW : Hid (base ≤ w.heap.size) := Lib.hid (by omega)
  have hbs : b < w.heap.size := (Array.getElem?_eq_some_iff.1 hB.box).1
  have HRC := Lib.hid (hC.root.root c hc)
  obtain ⟨c0, c1, c2, c3, c4, c5, c6⟩ := hB.cells
  rw [hPl] at c3
  have hn0 : (s.t.length : Int) ≤ 1000000 := by omega
  clear hB hC hI hPl c0 c1 c2 c4 c5 c6
  go_enter Tryz.func107, Tryz.ntmps107
  go_wp2_with fail
  go_step3
  go_wp2_with fail
  go_step3
  go_wp2_with fail
  go_loopw [5] (fun i wr => ∃ r : Nat, i = .int .i64 r ∧ r < s.t.length ∧ Hid (Root P r (s.rp c)) ∧ w = wr) (fun i _ => (intOf i).toNat)
  case atStart => exact ⟨c, rfl, hc, HRC, rfl⟩
  case round =>
    obtain ⟨r, rfl, hr, HR, rfl⟩ := hrel
    have hr0 : (0 : Int) ≤ (r : Int) := Int.natCast_nonneg _
    have hrI : (r : Int) < (s.t.length : Int) := by omega
    obtain ⟨y, hy, hyx, hyr, hyi⟩ := HR.out.parent
    have hck := (ownI_at HC.out.par (k := r) (by rw [HC.out.len]; exact hr)).1
    rw [hy] at hck
    have HYR := Lib.hid hyr
    have HYI := Lib.hid hyi
    clear hy hyr hyi
    by_cases hyx2 : y = r
    · subst hyx2
      have HE : Hid (s.rp c = y) := Lib.hid (HYI.out.1 rfl)
      go_wp2_with fail
      go_loopw [1] (fun i wr => ∃ c' : Nat, i = .int .i64 c' ∧ c' < s.t.length ∧ Hid (s.rp c' = y) ∧ Hid (HeldP base b wd lim w s vr (.slice (some ⟨gp, 0, none⟩) s.t.length cp) vq bl cs wr)) (fun i _ => (intOf i).toNat)
      case atStart => exact ⟨c, rfl, hc, HE, Lib.hid ⟨P, HB.out, HC.out, Below.refl _ _⟩⟩
      case round =>
        clear hck c3 HR HYR HYI
        obtain ⟨c', rfl, hc', HR, HW⟩ := hrel
        obtain ⟨P', hB, hC, hbel⟩ := HW.out
        have hc0 : (0 : Int) ≤ (c' : Int) := Int.natCast_nonneg _
        have hcI : (c' : Int) < (s.t.length : Int) := by omega
        obtain ⟨z, hz, hzx, hzr, hzi⟩ := (hC.root.root c' hc').parent
        obtain ⟨hck, hfk⟩ := ownI_at hC.par (k := c') (by rw [hC.len]; exact hc')
        rw [hz] at hck
        obtain ⟨-, -, -, c3, -, -, -⟩ := hB.cells
        have HBx := Lib.hid hB
        have HCx := Lib.hid hC
        have HBE := Lib.hid hbel
        have HZR := Lib.hid hzr
        have HZI := Lib.hid hzi
        clear hB hC hbel hz hzr hzi HW
        by_cases hzy : z = y
        · subst hzy
          have d2 : ((z : Int) != (z : Int)) = false := by simp
          go_wp2_with fail
          try rw [Exit.noGoto_ret]
          go_ret
          exact ⟨ret_int (by rw [HE.out]), ⟨HBB.out, P', vr, _, vq, bl, cs, HBx.out, HCx.out⟩, HBE.out⟩
        · have d2 : ((z : Int) != (y : Int)) = true := by simp; omega
          have hzl : z < c' := by
            rcases Nat.lt_or_ge z c' with h | h
            · exact h
            · have h1 : z = c' := by omega
              have h2 := HZI.out.1 h1
              rw [HR.out] at h2
              omega
          have HZ := Lib.hid hzy
          clear hzy
          go_wp2_with fail
          refine (wpIn_wide (n := 3)).1 ?_
          have HCK : Hid (wr.drew.cell? ⟨gp, c', none⟩ = some (.int .i64 (z : Int))) := Lib.hid hck
          have HFK : Hid (wr.drew.frozen? ⟨gp, c', none⟩ = false) := Lib.hid hfk
          have HC3 : Hid (wr.drew.cell? ⟨b, 3, none⟩ = some (.slice (some ⟨gp, 0, none⟩) s.t.length cp)) := Lib.hid c3
          refine wpIn_region_all (by kernel_rfl) 16 rfl (fun i => if i < 14 then some (32 + i) else if i = 14 then none else some 1) (lex_of (by kernel_rfl)) (fun ls W => W = bif ls 14 then wr.drew.setCell ⟨gp, c', none⟩ (.int .i64 (y : Int)) else wr.drew)
            (fun i v _ => v = ([.pointer (some ⟨b, 0, none⟩), .pointer (some ⟨b, 0, none⟩), .pointer (some ⟨b, 3, none⟩), .slice (some ⟨gp, 0, none⟩) s.t.length cp, .int .i64 (c' : Int), .int .i64 (y : Int), .pointer (some ⟨b, 0, none⟩), .pointer (some ⟨b, 0, none⟩), .pointer (some ⟨b, 3, none⟩), .slice (some ⟨gp, 0, none⟩) s.t.length cp, .int .i64 (c' : Int), .pointer (some ⟨gp, c', none⟩), .int .i64 (z : Int), .pointer (some ⟨gp, c', none⟩), undef, .int .i64 (z : Int)] : List Value).getD i undef) (fun _ _ _ => True) (dm_inj (by kernel_rfl)) (fun _ _ _ _ _ _ _ _ _ h => h) (dm_lt (n := 47) (by kernel_rfl)) rfl ?_ ?_
          · intro ls q o a w2 hq ho hS2 hls hcl hP hpre
            have hcases : q = 0 ∨ q = 1 ∨ q = 2 ∨ q = 3 ∨ q = 4 ∨ q = 5 ∨ q = 6 ∨ q = 7 ∨ q = 8 ∨ q = 9 ∨ q = 10 ∨ q = 11 ∨ q = 12 ∨ q = 13 ∨ q = 14 ∨ q = 15 := by
              have : q < 16 := hq
              omega
            rcases hcases with rfl | rfl | rfl | rfl | rfl | rfl | rfl | rfl | rfl | rfl | rfl | rfl | rfl | rfl | rfl | rfl
            · obtain rfl := Option.some.inj ho
              exact wpOpIn_of rfl rfl (wpW_val (r_move (.tmp 0) rfl (hP.out 0 (dm_out (by kernel_rfl)))) ⟨_, rfl, hS2, trivial, (fun h => by simp at h), rfl⟩)
            · obtain rfl := Option.some.inj ho
              exact wpOpIn_of rfl rfl (wpW_val (r_nil (.tmp 32) _ rfl (hpre ⟨0, .data⟩ (by simp) rfl).2) ⟨_, rfl, hS2, trivial, (fun h => by simp at h), rfl⟩)
            · obtain rfl := Option.some.inj ho
              exact wpOpIn_of rfl rfl (wpW_val (r_fld (.tmp 33) _ rfl (hpre ⟨1, .data⟩ (by simp) rfl).2 (fld116_3 b _)) ⟨_, rfl, hS2, trivial, (fun h => by simp at h), rfl⟩)
            · obtain rfl := Option.some.inj ho
              have h14 := not_yet hcl 14 rfl ⟨3, .phase⟩ (by simp) rfl hls
              rw [h14] at hS2
              subst hS2
              exact wpOpIn_of rfl rfl (wpW_val (r_load1 22 agg24 (.tmp 34) ⟨b, 3, none⟩ rfl (hpre ⟨2, .data⟩ (by simp) rfl).2 HC3.out) ⟨_, rfl, (by rw [← h14]; rfl), trivial, (fun h => by simp at h), rfl⟩)
            · obtain rfl := Option.some.inj ho
              have h15 := not_yet hcl 15 rfl ⟨4, .phase⟩ (by simp) rfl hls
              exact wpOpIn_of rfl rfl (wpW_val (r_move (.tmp 1) rfl (hP.out 1 (dm_out1 h15 (by kernel_rfl)))) ⟨_, rfl, hS2, trivial, (fun h => by simp at h), rfl⟩)
            · obtain rfl := Option.some.inj ho
              exact wpOpIn_of rfl rfl (wpW_val (r_move (.tmp 5) rfl (hP.out 5 (dm_out (by kernel_rfl)))) ⟨_, rfl, hS2, trivial, (fun h => by simp at h), rfl⟩)
            · obtain rfl := Option.some.inj ho
              exact wpOpIn_of rfl rfl (wpW_val (r_move (.tmp 0) rfl (hP.out 0 (dm_out (by kernel_rfl)))) ⟨_, rfl, hS2, trivial, (fun h => by simp at h), rfl⟩)
            · obtain rfl := Option.some.inj ho
              exact wpOpIn_of rfl rfl (wpW_val (r_nil (.tmp 38) _ rfl (hpre ⟨6, .data⟩ (by simp) rfl).2) ⟨_, rfl, hS2, trivial, (fun h => by simp at h), rfl⟩)
            · obtain rfl := Option.some.inj ho
              exact wpOpIn_of rfl rfl (wpW_val (r_fld (.tmp 39) _ rfl (hpre ⟨7, .data⟩ (by simp) rfl).2 (fld116_3 b _)) ⟨_, rfl, hS2, trivial, (fun h => by simp at h), rfl⟩)
            · obtain rfl := Option.some.inj ho
              have h14 := not_yet hcl 14 rfl ⟨9, .phase⟩ (by simp) rfl hls
              rw [h14] at hS2
              subst hS2
              exact wpOpIn_of rfl rfl (wpW_val (r_load1 22 agg24 (.tmp 40) ⟨b, 3, none⟩ rfl (hpre ⟨8, .data⟩ (by simp) rfl).2 HC3.out) ⟨_, rfl, (by rw [← h14]; rfl), trivial, (fun h => by simp at h), rfl⟩)
            · obtain rfl := Option.some.inj ho
              have h15 := not_yet hcl 15 rfl ⟨10, .phase⟩ (by simp) rfl hls
              exact wpOpIn_of rfl rfl (wpW_val (r_move (.tmp 1) rfl (hP.out 1 (dm_out1 h15 (by kernel_rfl)))) ⟨_, rfl, hS2, trivial, (fun h => by simp at h), rfl⟩)
            · obtain rfl := Option.some.inj ho
              exact wpOpIn_of rfl rfl (wpW_val (r_idx (.tmp 41) (.tmp 42) _ _ rfl (hpre ⟨9, .data⟩ (by simp) rfl).2 (hpre ⟨10, .data⟩ (by simp) rfl).2 (idx_sl Tryz.underlying22 size3 gp _ cp c' hc' _)) ⟨_, rfl, hS2, trivial, (fun h => by simp at h), rfl⟩)
            · obtain rfl := Option.some.inj ho
              have h14 := not_yet hcl 14 rfl ⟨12, .phase⟩ (by simp) rfl hls
              rw [h14] at hS2
              subst hS2
              exact wpOpIn_of rfl rfl (wpW_val (r_load1 3 agg3 (.tmp 43) ⟨gp, c', none⟩ rfl (hpre ⟨11, .data⟩ (by simp) rfl).2 HCK.out) ⟨_, rfl, (by rw [← h14]; rfl), trivial, (fun h => by simp at h), rfl⟩)
            · obtain rfl := Option.some.inj ho
              exact wpOpIn_of rfl rfl (wpW_val (r_idx (.tmp 35) (.tmp 36) _ _ rfl (hpre ⟨3, .data⟩ (by simp) rfl).2 (hpre ⟨4, .data⟩ (by simp) rfl).2 (idx_sl Tryz.underlying22 size3 gp _ cp c' hc' _)) ⟨_, rfl, hS2, trivial, (fun h => by simp at h), rfl⟩)
            · obtain rfl := Option.some.inj ho
              rw [hls] at hS2
              subst hS2
              exact wpOpIn_of rfl rfl (wpW_skip (r_store1 3 (.tmp 45) (.tmp 37) _ _ _ rfl (hpre ⟨13, .data⟩ (by simp) rfl).2 (hpre ⟨5, .data⟩ (by simp) rfl).2 rfl HCK.out HFK.out (st3 _ _ _ HCK.out HFK.out)) ⟨undef, rfl, rfl, trivial, fun _ => rfl, rfl⟩)
            · obtain rfl := Option.some.inj ho
              exact wpOpIn_of rfl rfl (wpW_val (r_assign (.tmp 44) rfl (hpre ⟨12, .data⟩ (by simp) rfl).2) ⟨_, rfl, hS2, trivial, (fun h => by simp at h), rfl⟩)
          · intro ls a w2 hall hS2 hP hsl
            have h14 : ls 14 = true := hall 14 (by decide)
            rw [h14] at hS2
            obtain ⟨vs, hvs, hfr⟩ := hP.frame 47 rfl
            have h1 : vs 1 = .int .i64 (z : Int) := (hvs 1).trans (hsl 15 (by decide))
            have hd := (Below.refl wr.heap.size wr).drew
            have hC2 := (HCx.out.below hd).setP (g := gp) rfl (x := c') (by rw [HCx.out.len]; exact hc') (y : Int) (s' := s) rfl rfl (by rw [← HR.out]; exact HCx.out.root.short hc')
            have hB2 := (HBx.out.below hd).other (owns_block (owns_below HCx.out.par hd) gp rfl).2 (by decide) c' (.int .i64 (y : Int))
            have hbel2 : Below base w (wr.drew.setCell ⟨gp, c', none⟩ (.int .i64 (y : Int))) := (HBE.out.trans (hd.mono (Nat.le_trans HBW.out HBE.out.size))).setCell (by exact hg1) _
            have HW2 : Hid (HeldP base b wd lim w s vr (.slice (some ⟨gp, 0, none⟩) s.t.length cp) vq bl cs (wr.drew.setCell ⟨gp, c', none⟩ (.int .i64 (y : Int)))) := Lib.hid ⟨_, hB2, hC2, hbel2⟩
            have HZ2 : Hid (s.rp z = y) := Lib.hid (by
              have h1 := HCx.out.root.root z (by omega)
              rw [h1.unique HZR.out, HR.out])
            clear hsl hP hall h14 hvs hd hC2 hB2 hbel2
            subst hfr
            subst hS2
            dsimp only
            simp only [List.range, List.range.loop, List.map_cons, List.map_nil, List.any_cons, List.any_nil, Nat.reduceAdd, Nat.reduceBEq, Nat.reduceLT, Nat.reduceEqDiff, Option.some_beq_some, Bool.or_false, Bool.or_true, if_true, if_false, List.getD_cons_zero, List.getD_cons_succ, h1, cond_true]
            generalize hw2 : wr.drew.setCell ⟨gp, c', none⟩ (.int .i64 (y : Int)) = w9 at *
            clear hw2
            go_wp2_with fail
            go_roundw
            case rel => first | exact ⟨z, rfl, by omega, HZ2, HW2⟩ | exact ⟨z, rfl, by omega, HZ2⟩
            case measure => simp [intOf]; omega
    · have d1 : ((y : Int) == (r : Int)) = false := by rw [beq_eq_false_iff_ne]; omega
      have hyl : y < r := by omega
      clear hyx2
      go_wp2_with fail
      go_roundw
      case rel => exact ⟨y, rfl, by omega, HYR, (by first | trivial | rfl)⟩
      case measure => simp [intOf]; omega
end Go.Proofs
