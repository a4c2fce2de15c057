/- The state of an enumeration in memory: rows that are written, parents, a queue; Equality of tables and words; a copy by append; slices.Clone; letter; word.Reduce and cayleyref02.Reduce; Appending a readable list; slices.Concat; word.Invert, Mul and cayleyref02.Invert, Mul; word.Invert, slices.Concat, word.Mul; Maps keyed by pairs of numbers; The system of a table in memory: its map of numbers and its list of pairs; (system).grows; coset.Reps and cayleyref18.Reps; rewrite.of; rewrite.of at a standard table; rewrite.Count. -/
import Derived.Test.YtmpnengjboabcaaFkCS2
import Derived.Test.YtmpnengjboabcaaFkCS4
import Derived.Test.YtmpnengjboabcaaFkCS1
import Derived.WalkMore
import Derived.DeepKeys4
import Derived.MapViews
import Derived.WideKeyArgs
import Derived.Deep.MidRow
import Derived.Deep.RegionHeld3
namespace Go.Proofs
open Go.RowKit Go.Shelf Go.Proofs.Ct Go.Maps
def nats (l : List Nat) : List Int := l.map Int.ofNat
theorem length_nats (l : List Nat) : (nats l).length = l.length := by simp [nats]
theorem nats_app (a b : List Nat) : nats (a ++ b) = nats a ++ nats b := by simp [nats]
theorem nats_getD (l : List Nat) (k : Nat) : (nats l).getD k 0 = (l.getD k 0 : Int) := by
  unfold nats
  by_cases h : k < l.length
  · simp [List.getD_eq_getElem?_getD, h]
  · simp [List.getD_eq_getElem?_getD, List.getElem?_eq_none (by omega : l.length ≤ k)]
/-- an element of an owned list of numbers is written -/
theorem ownI_set {base : Nat} {w : World} {v : Value} {xs : List Int} (h : OwnI base w v xs) {g k : Nat} (hg : v.ownBlock = some g) (_hk : k < xs.length) (z : Int) : OwnI base (w.setCell ⟨g, k, none⟩ (.int .i64 z)) v (xs.set k z) := by
  obtain ⟨hl, h⟩ := h
  rcases h with ⟨rfl, -⟩ | ⟨g', cap, cur, rfl, hb, hc, hn, hm, hs, ht⟩
  · cases hg
  · obtain rfl : g' = g := Option.some.inj hg
    refine ⟨by simp [ints], .inr ⟨g', cap, cur.setIfInBounds k (.int .i64 z), by simp, hb, by simp [World.setCell, Array.getElem?_modify, hc], by simpa using hn, hm, by simpa using hs, ?_⟩⟩
    rw [Array.toList_setIfInBounds, List.take_set, List.length_set, ht]
    simp [ints, List.map_set]
theorem ownI_cell {base : Nat} {w : World} {v : Value} {xs : List Int} (h : OwnI base w v xs) (hn : 0 < xs.length) : ∃ g c, v = .slice (some ⟨g, 0, none⟩) xs.length c ∧ base ≤ g ∧ g < w.heap.size ∧ (∀ k, k < xs.length → w.cell? ⟨g, k, none⟩ = some (.int .i64 (xs.getD k 0))) ∧ ∀ k, w.frozen? ⟨g, k, none⟩ = false := by
  obtain ⟨hl, h⟩ := h
  rcases h with ⟨rfl, h0⟩ | ⟨g, cap, cur, rfl, hb, hc, h1, hm, hs, ht⟩
  · omega
  · refine ⟨g, cap, rfl, hb, (Array.getElem?_eq_some_iff.1 hc).1, fun k hk => ?_, fun k => by simp [World.frozen?, hc]⟩
    rw [cell_of_row _ _ _ _ _ _ hc]
    have h2 : (cur.toList.take (xs.length * 1))[k]? = (ints xs)[k]? := by rw [ht]
    rw [List.getElem?_take, if_pos (by omega)] at h2
    simpa [ints, hk, List.getD_eq_getElem?_getD] using h2
theorem ownI_at {base : Nat} {w : World} {g n c : Nat} {xs : List Int} (h : OwnI base w (.slice (some ⟨g, 0, none⟩) n c) xs) {k : Nat} (hk : k < xs.length) : w.cell? ⟨g, k, none⟩ = some (.int .i64 (xs.getD k 0)) ∧ w.frozen? ⟨g, k, none⟩ = false := by
  obtain ⟨g', c', e, -, -, h1, h2⟩ := ownI_cell h (by omega)
  have e1 : g = g' := by have := congrArg Value.ownBlock e; simpa [Value.ownBlock] using this
  subst e1
  exact ⟨h1 k hk, h2 k⟩
/-- rows, parents and queue in memory, all of the call's own from base on -/
structure CoreM (base : Nat) (w : World) (s : St) (P : List Int) (vr vp vq : Value) (bl cs : Nat → Nat) : Prop where
  out : w.ownsRow base 24 1 vr s.t.length ((List.range s.t.length).map fun i => .slice (some ⟨bl i, 0, none⟩) (s.t.row i).length (cs i))
  row : ∀ i, i < s.t.length → base ≤ bl i ∧ XsAt w (bl i) (s.t.row i) ∧ (s.t.row i).length ≤ cs i ∧ cs i ≤ 9223372036854775807
  inj : ∀ i j, i < s.t.length → j < s.t.length → bl i = bl j → i = j
  par : OwnI base w vp P
  que : OwnI base w vq (nats s.q)
  sepP : ∀ i, i < s.t.length → vp.ownBlock ≠ some (bl i)
  sepQ : ∀ i, i < s.t.length → vq.ownBlock ≠ some (bl i)
  pq : ∀ r, vp.ownBlock = some r → vq.ownBlock ≠ some r
  root : Roots P s
section
variable {base : Nat} {w w' : World} {s : St} {P : List Int} {vr vp vq : Value} {bl cs : Nat → Nat}
/-- nothing of it lies in the blocks that turn -/
theorem CoreM.keep (h : CoreM base w s P vr vp vq bl cs) (hk : ∀ k C e, base ≤ k → w.heap[k]? = some (.cells C e (0, 0)) → (e = 3 ∨ e = 24) → w'.heap[k]? = w.heap[k]?) : CoreM base w' s P vr vp vq bl cs := by
  refine ⟨owns_keep h.out fun r hr => ?_, fun i hi => ?_, h.inj, owns_keep h.par fun r hr => ?_, owns_keep h.que fun r hr => ?_, h.sepP, h.sepQ, h.pq, h.root⟩
  · obtain ⟨a, C, hC⟩ := owns_block h.out r hr
    exact hk r C 24 a hC (.inr rfl)
  · obtain ⟨a, b, c⟩ := h.row i hi
    obtain ⟨C, hC, -⟩ := id b
    exact ⟨a, b.keep (hk _ C 3 a hC (.inl rfl)), c⟩
  · obtain ⟨a, C, hC⟩ := owns_block h.par r hr
    exact hk r C 3 a hC (.inl rfl)
  · obtain ⟨a, C, hC⟩ := owns_block h.que r hr
    exact hk r C 3 a hC (.inl rfl)
theorem CoreM.below (h : CoreM base w s P vr vp vq bl cs) (hb : Below w.heap.size w w') : CoreM base w' s P vr vp vq bl cs :=
  h.keep fun k _C _e _ hC _ => hb.block k (Array.getElem?_eq_some_iff.1 hC).1
/-- another block is written -/
theorem CoreM.other (h : CoreM base w s P vr vp vq bl cs) {b : Nat} {C0 : Array Value} {T : TypeId} (hb : w.heap[b]? = some (.cells C0 T (0, 0))) (h3 : T ≠ 3) (h24 : T ≠ 24) (k : Nat) (v : Value) : CoreM base (w.setCell ⟨b, k, none⟩ v) s P vr vp vq bl cs :=
  h.keep fun j C e _ hC he => Below.heap_setCell w ⟨b, k, none⟩ v j fun e' => by
    have e'' : j = b := e'
    rw [e'', hb] at hC
    cases hC
    rcases he with he | he <;> simp_all
theorem CoreM.len (h : CoreM base w s P vr vp vq bl cs) : P.length = s.t.length := h.root.len
/-- reading an element of a row -/
theorem CoreM.at_ (h : CoreM base w s P vr vp vq bl cs) {r c : Nat} (hr : r < s.t.length) (hc : c < (s.t.row r).length) : ∃ g cap, vr = .slice (some ⟨g, 0, none⟩) s.t.length cap ∧ w.cell? ⟨g, r, none⟩ = some (.slice (some ⟨bl r, 0, none⟩) (s.t.row r).length (cs r)) ∧ w.cell? ⟨bl r, c, none⟩ = some (.int .i64 (s.t.at r c)) ∧ w.frozen? ⟨bl r, c, none⟩ = false := by
  obtain ⟨-, hX, -⟩ := h.row r hr
  obtain ⟨hl, ho⟩ := h.out
  rcases ho with ⟨-, h0⟩ | ⟨g, cap, cur, rfl, hb, hC, h1, hm, hs, ht⟩
  · omega
  · refine ⟨g, cap, rfl, ?_, hX.cell hc, hX.frozen c⟩
    rw [cell_of_row _ _ _ _ _ _ hC]
    have h2 : (cur.toList.take (s.t.length * 1))[r]? = ((List.range s.t.length).map fun i => Value.slice (some ⟨bl i, 0, none⟩) (s.t.row i).length (cs i))[r]? := by rw [ht]
    rw [List.getElem?_take, if_pos (by omega)] at h2
    simpa [hr] using h2
/-- writing an element of a row -/
theorem CoreM.set (h : CoreM base w s P vr vp vq bl cs) {r c : Nat} (hr : r < s.t.length) (hc : c < (s.t.row r).length) (z : Int) : CoreM base (w.setCell ⟨bl r, c, none⟩ (.int .i64 z)) { s with t := set2 s.t r c z } P vr vp vq bl cs := by
  have hne : ∀ k, k ≠ bl r → (w.setCell ⟨bl r, c, none⟩ (.int .i64 z)).heap[k]? = w.heap[k]? := fun k hk => Below.heap_setCell w ⟨bl r, c, none⟩ _ k hk
  obtain ⟨-, hXr, -⟩ := h.row r hr
  obtain ⟨Cr, hCr, -⟩ := id hXr
  refine ⟨?_, fun i hi => ?_, fun i j hi hj => h.inj i j (by simpa [length_set2] using hi) (by simpa [length_set2] using hj), owns_keep h.par fun k hk => hne k (fun e => h.sepP r hr (by rw [hk, e])), owns_keep h.que fun k hk => hne k (fun e => h.sepQ r hr (by rw [hk, e])), fun i hi => h.sepP i (by simpa [length_set2] using hi), fun i hi => h.sepQ i (by simpa [length_set2] using hi), h.pq, h.root.of_rep (length_set2 _ _ _ _) rfl⟩
  · simp only [length_set2, rowlen_set2]
    refine owns_keep h.out fun k hk => hne k fun e => ?_
    obtain ⟨-, C, hC⟩ := owns_block h.out k hk
    rw [e, hCr] at hC
    cases hC
  · simp only [length_set2] at hi
    obtain ⟨a, b, d⟩ := h.row i hi
    simp only [rowlen_set2]
    refine ⟨a, ?_, d⟩
    rw [row_set2]
    by_cases e : r = i
    · subst e
      rw [if_pos ⟨rfl, hr⟩]
      exact hXr.set hc z
    · rw [if_neg (fun h' => e h'.1)]
      exact b.keep (hne _ fun e' => e (h.inj r i hr hi e'.symm))
/-- writing a parent -/
theorem CoreM.setP (h : CoreM base w s P vr vp vq bl cs) {g x : Nat} (hg : vp.ownBlock = some g) (hx : x < P.length) (z : Int) {s' : St} (ht : s'.t = s.t) (hq : s'.q = s.q) (hroot : Roots (P.set x z) s') : CoreM base (w.setCell ⟨g, x, none⟩ (.int .i64 z)) s' (P.set x z) vr vp vq bl cs := by
  have hne : ∀ k, k ≠ g → (w.setCell ⟨g, x, none⟩ (.int .i64 z)).heap[k]? = w.heap[k]? := fun k hk => Below.heap_setCell w ⟨g, x, none⟩ _ k hk
  obtain ⟨-, Cg, hCg⟩ := owns_block h.par g hg
  refine ⟨?_, fun i hi => ?_, by rw [ht]; exact h.inj, ownI_set h.par hg hx z, by rw [hq]; exact owns_keep h.que fun k hk => hne k (fun e => h.pq g hg (by rw [hk, e])), by rw [ht]; exact h.sepP, by rw [ht]; exact h.sepQ, h.pq, hroot⟩
  · rw [ht]
    refine owns_keep h.out fun k hk => hne k fun e => ?_
    obtain ⟨-, C, hC⟩ := owns_block h.out k hk
    rw [e, hCg] at hC
    cases hC
  · rw [ht] at hi ⊢
    obtain ⟨a, b, d⟩ := h.row i hi
    exact ⟨a, b.keep (hne _ fun e => h.sepP i hi (by rw [hg, e])), d⟩
/-- a coset joins the queue -/
theorem CoreM.pushQ (h : CoreM base w s P vr vp vq bl cs) (hbw : base ≤ w.heap.size) (x : Nat) (hl : s.q.length ≤ 1000000) : ∃ A' c' w', (Builtin.append_ #[24, 24] 24 #[vq, .slice (some ⟨w.heap.size, 0, none⟩) 1 1]).run Try.prog (w.alloc (.cells #[.int .i64 (x : Int)] 3)) = .ok (.slice A' (s.q.length + 1) c') w' ∧
    CoreM base w' { s with q := s.q ++ [x] } P vr vp (.slice A' (s.q.length + 1) c') bl cs ∧ w.grownBy w' vq.ownBlock := by
  have hq := h.que
  obtain ⟨A', c', w', hr, ho, hg, hw⟩ := push_int 24 24 Try.underlying24 w base vq (nats s.q) hq (x : Int) (by rw [length_nats]; omega) hbw
  rw [length_nats] at hr ho hw
  have hne : ∀ k C e, w.heap[k]? = some (.cells C e (0, 0)) → vq.ownBlock ≠ some k → w'.heap[k]? = w.heap[k]? := fun k C e hC hn => hg.block k (Array.getElem?_eq_some_iff.1 hC).1 (Ne.symm hn)
  have hnewb : ∀ r, (Value.slice A' (s.q.length + 1) c').ownBlock = some r → vq.ownBlock = some r ∨ w.heap.size ≤ r := fun r hr => by
    rcases hw with hw | ⟨r', hr', hge⟩
    · exact .inl (by rw [← hw]; exact hr)
    · rw [hr] at hr'
      cases hr'
      exact .inr hge
  refine ⟨A', c', w', hr, ⟨owns_keep h.out fun k hk => ?_, fun i hi => ?_, h.inj, owns_keep h.par fun k hk => ?_, ?_, h.sepP, fun i hi e => ?_, fun r hr e => ?_, h.root.of_rep rfl rfl⟩, hg⟩
  · obtain ⟨-, C, hC⟩ := owns_block h.out k hk
    refine hne k C 24 hC fun e => ?_
    obtain ⟨-, C', hC'⟩ := owns_block hq k e
    rw [hC] at hC'
    cases hC'
  · obtain ⟨a, b, d⟩ := h.row i hi
    obtain ⟨C, hC, -⟩ := id b
    exact ⟨a, b.keep (hne _ C 3 hC (h.sepQ i hi)), d⟩
  · obtain ⟨-, C, hC⟩ := owns_block h.par k hk
    exact hne k C 3 hC (h.pq k hk)
  · show OwnI base w' _ (nats (s.q ++ [x]))
    rw [nats_app]
    exact ho
  · obtain ⟨-, b, -⟩ := h.row i hi
    rcases hnewb _ e with e | e
    · exact h.sepQ i hi e
    · exact absurd b.lt (by omega)
  · rcases hnewb _ e with e | e
    · exact h.pq r hr e
    · exact absurd (owns_lt h.par hr) (by omega)
end
end Go.Proofs
namespace Go.Proofs
open Go.RowKit Go.Shelf Go.Proofs.Ct
set_option maxRecDepth 100000 in
set_option maxHeartbeats 400000 in
theorem same18_any (w : World) (va vb : Value) (A B : List (List Int)) (ha : Tab w va A) (hb : Tab w vb B) :
    Calls Try.prog 42 #[va, vb] w fun e w' => e = .returned (.bool (decide (A = B))) ∧ ∃ q, w' = w.drewN q := by
  obtain ⟨A0, ca, rfl, ha1, ha2, ha3⟩ := ha.open_
  obtain ⟨B0, cb, rfl, hb1, hb2, hb3⟩ := hb.open_
  have HA := Lib.hid ha3
  have HB := Lib.hid hb3
  clear ha hb ha3 hb3
  by_cases hl : A.length = B.length
  · have d1 : ((A.length : Int) != (B.length : Int)) = false := by simp; omega
    have d2 : (A.length != B.length) = false := by simp; omega
    have HL := Lib.hid hl
    clear hl
    go_enter Try.func42, Try.ntmps42
    go_wp2_with fail
    go_loopw [5] (fun i wr => ∃ k : Nat, k ≤ A.length ∧ i = .int .i64 k ∧ (∀ j, j < k → A.getD j [] = B.getD j []) ∧ ∃ q, wr = w.drewN q) (fun i _ => A.length - (intOf i).toNat)
    case atStart => exact ⟨0, Nat.zero_le _, rfl, fun j hj => absurd hj (by omega), 0, rfl⟩
    case round =>
      obtain ⟨k, hk, rfl, hz, q, rfl⟩ := hrel
      have HZ := Lib.hid hz
      clear hz
      by_cases hlt : k < A.length
      · obtain ⟨b1, o1, rfl, hc1⟩ := HA.out (by omega)
        obtain ⟨b2, o2, rfl, hc2⟩ := HB.out (by rw [← HL.out]; omega)
        obtain ⟨u1, hu1, hr1⟩ := hc1 k hlt
        obtain ⟨u2, hu2, hr2⟩ := hc2 k (by rw [← HL.out]; omega)
        obtain ⟨A3, c3, rfl, hd1, hd2, hd⟩ := hr1.open_
        obtain ⟨A4, c4, rfl, he1, he2, he⟩ := hr2.open_
        have hk0 : (0 : Int) ≤ (k : Int) := Int.natCast_nonneg _
        have hkb : (k : Int) < (B.length : Int) := by rw [← HL.out]; omega
        have hka : (k : Int) < (A.length : Int) := by omega
        have HN := Lib.hid (fun h => getD_ne (A := A) (B := B) (d := []) (k := k) h)
        generalize hxe : A.getD k [] = x at *
        generalize hye : B.getD k [] = y at *
        have HXE := Lib.hid hxe
        have HYE := Lib.hid hye
        clear hxe hye
        have HD := Lib.hid hd
        have HE := Lib.hid he
        clear hc1 hc2 hr1 hr2 hd he
        by_cases hxy : x.length = y.length
        · have d3 : ((x.length : Int) != (y.length : Int)) = false := by simp; omega
          have d4 : (x.length != y.length) = false := by simp; omega
          have HX := Lib.hid hxy
          clear hxy
          go_wp2_with fail
          go_quiet (fail)
          go_wp2_with fail
          go_loopw [6] (fun i wr => ∃ j : Nat, j ≤ x.length ∧ i = .int .i64 j ∧ (∀ t, t < j → x.getD t 0 = y.getD t 0) ∧ ∃ q, wr = w.drewN q) (fun i _ => x.length - (intOf i).toNat)
          case atStart => exact ⟨0, Nat.zero_le _, rfl, fun j hj => absurd hj (by omega), (by first | exact ⟨_, rfl⟩ | exact ex_drewN)⟩
          case round =>
            obtain ⟨j, hj, rfl, hzj, qj, rfl⟩ := hrel
            have HZJ := Lib.hid hzj
            clear hzj
            by_cases hjl : j < x.length
            · obtain ⟨b3, o3, rfl, hx⟩ := HD.out (by omega)
              obtain ⟨b4, o4, rfl, hy⟩ := HE.out (by rw [← HX.out]; omega)
              have hx1 := hx j hjl
              have hy1 := hy j (by rw [← HX.out]; omega)
              have hj0 : (0 : Int) ≤ (j : Int) := Int.natCast_nonneg _
              have hjb : (j : Int) < (y.length : Int) := by rw [← HX.out]; omega
              have hja : (j : Int) < (x.length : Int) := by omega
              have HM := Lib.hid (fun h => getD_ne (A := x) (B := y) (d := 0) (k := j) h)
              clear hx hy
              generalize hse : x.getD j 0 = s at *
              generalize hte : y.getD j 0 = t at *
              have HSE := Lib.hid hse
              have HTE := Lib.hid hte
              clear hse hte
              by_cases hst : s = t
              · have d5 : (s != t) = false := by simpa using hst
                have HS := Lib.hid hst
                clear hst
                go_wp2_with fail
                go_quiet (fail)
                go_wp2_with fail
                go_roundw
                case rel => exact ⟨j + 1, by omega, by go_num, all_succ HZJ.out (by rw [HSE.out, HTE.out]; exact HS.out), (by first | exact ⟨_, rfl⟩ | exact ex_drewN)⟩
                case measure => simp [intOf]; omega
              · have d5 : (s != t) = true := by simpa using hst
                have HS := Lib.hid hst
                clear hst
                go_wp2_with fail
                go_quiet (fail)
                go_wp2_with fail
                go_ret
                exact ⟨ret_bool (by simpa using HN.out (HM.out HS.out)), (by first | exact ⟨_, rfl⟩ | exact ex_drewN)⟩
            · obtain rfl : j = x.length := by omega
              go_wp2_with fail
              go_roundw
              case rel => exact ⟨k + 1, by omega, by go_num, all_succ HZ.out (by rw [HXE.out, HYE.out]; exact getD_ext HX.out HZJ.out), _, rfl⟩
              case measure => simp [intOf]; omega
        · have d3 : ((x.length : Int) != (y.length : Int)) = true := by simp; omega
          have d4 : (x.length != y.length) = true := by simp; omega
          have HX := Lib.hid hxy
          clear hxy
          go_wp2_with fail
          go_quiet (fail)
          go_wp2_with fail
          go_ret
          exact ⟨ret_bool (by simpa using HN.out (fun e => HX.out (by rw [e]))), (by first | exact ⟨_, rfl⟩ | exact ex_drewN)⟩
      · obtain rfl : k = A.length := by omega
        go_wp2_with fail
        go_ret
        exact ⟨ret_bool (by simpa using getD_ext HL.out HZ.out), _, rfl⟩
  · have d1 : ((A.length : Int) != (B.length : Int)) = true := by simp; omega
    have d2 : (A.length != B.length) = true := by simp; omega
    have HL := Lib.hid hl
    clear hl
    go_enter Try.func42, Try.ntmps42
    go_wp2_with fail
    go_ret
    exact ⟨ret_bool (by simpa using fun e => HL.out (by rw [e])), 0, rfl⟩
set_option maxRecDepth 100000 in
set_option maxHeartbeats 400000 in
theorem equal143_any (w : World) (va vb : Value) (x y : List Int) (ha : IntsAt w va x) (hb : IntsAt w vb y) :
    Calls Try.prog 191 #[va, vb] w fun e w' => e = .returned (.bool (decide (x = y))) ∧ ∃ q, w' = w.drewN q := by
  obtain ⟨A3, c3, rfl, hd1, hd2, hd⟩ := ha.open_
  obtain ⟨A4, c4, rfl, he1, he2, he⟩ := hb.open_
  have HD := Lib.hid hd
  have HE := Lib.hid he
  clear ha hb hd he
  have HN := Lib.hid (fun (h : x.length ≠ y.length) (e : x = y) => h (by rw [e]))
  by_cases hxy : x.length = y.length
  · have d3 : ((x.length : Int) != (y.length : Int)) = false := by simp; omega
    have d4 : (x.length != y.length) = false := by simp; omega
    have HX := Lib.hid hxy
    clear hxy
    go_enter Try.func191, Try.ntmps191
    go_wp2_with fail
    go_loopw [5, 13] (fun _ i wr => ∃ j : Nat, j ≤ x.length ∧ i = .int .i64 j ∧ (∀ t, t < j → x.getD t 0 = y.getD t 0) ∧ ∃ q, wr = w.drewN q) (fun _ i _ => x.length - (intOf i).toNat)
    case atStart => exact ⟨0, Nat.zero_le _, rfl, fun j hj => absurd hj (by omega), 0, rfl⟩
    case round =>
      obtain ⟨j, hj, rfl, hzj, qj, rfl⟩ := hrel
      have HZJ := Lib.hid hzj
      clear hzj
      by_cases hjl : j < x.length
      · obtain ⟨b3, o3, rfl, hx⟩ := HD.out (by omega)
        obtain ⟨b4, o4, rfl, hy⟩ := HE.out (by rw [← HX.out]; omega)
        have hx1 := hx j hjl
        have hy1 := hy j (by rw [← HX.out]; omega)
        have hj0 : (0 : Int) ≤ (j : Int) := Int.natCast_nonneg _
        have hjb : (j : Int) < (y.length : Int) := by rw [← HX.out]; omega
        have hja : (j : Int) < (x.length : Int) := by omega
        have HM := Lib.hid (fun h => getD_ne (A := x) (B := y) (d := 0) (k := j) h)
        clear hx hy
        generalize hse : x.getD j 0 = s at *
        generalize hte : y.getD j 0 = t at *
        have HSE := Lib.hid hse
        have HTE := Lib.hid hte
        clear hse hte
        by_cases hst : s = t
        · have d5 : (s != t) = false := by simpa using hst
          have HS := Lib.hid hst
          clear hst
          go_wp2_with fail
          go_quiet (fail)
          go_wp2_with fail
          go_roundw
          case rel => exact ⟨j + 1, by omega, by go_num, all_succ HZJ.out (by rw [HSE.out, HTE.out]; exact HS.out), (by first | exact ⟨_, rfl⟩ | exact ex_drewN)⟩
          case measure => simp [intOf]; omega
        · have d5 : (s != t) = true := by simpa using hst
          have HS := Lib.hid hst
          clear hst
          go_wp2_with fail
          go_quiet (fail)
          go_wp2_with fail
          go_ret
          exact ⟨ret_bool (by simpa using HM.out HS.out), (by first | exact ⟨_, rfl⟩ | exact ex_drewN)⟩
      · obtain rfl : j = x.length := by omega
        go_wp2_with fail
        go_ret
        exact ⟨ret_bool (by simpa using getD_ext HX.out HZJ.out), (by first | exact ⟨_, rfl⟩ | exact ex_drewN)⟩
  · have d3 : ((x.length : Int) != (y.length : Int)) = true := by simp; omega
    have d4 : (x.length != y.length) = true := by simp; omega
    have HX := Lib.hid hxy
    clear hxy
    go_enter Try.func191, Try.ntmps191
    go_wp2_with fail
    go_ret
    exact ⟨ret_bool (by simpa using HN.out HX.out), 0, rfl⟩
theorem src_ints {t : TypeId} (ht : Try.prog.underlying t = some (.slice 3)) {w : World} {v : Value} {y : List Int} (h : IntsAt w v y) : Src Try.prog 1 t v y.length (ints y) w := by
  obtain ⟨⟨A, n, cap, rfl, hn, hc, hm, hr⟩, -⟩ := h
  have hl : n = y.length := by simpa [ints] using hn
  subst hl
  rcases Nat.eq_zero_or_pos y.length with h0 | h0
  · obtain rfl : y = [] := List.length_eq_zero_iff.1 h0
    cases A with
    | none => exact Src.ofNil w ht cap
    | some a => exact Src.ofSlice w ht a 0 cap [] rfl (fun j u hu => by simp at hu) (fun u hu => by cases hu)
  · obtain ⟨b, off, rfl, hrow⟩ := hr h0
    exact Src.ofSlice w ht _ _ cap (ints y) (by simp [ints]) (fun j u hu => by rw [Addr.add_lit]; exact hrow j u hu) (fun u hu => by obtain ⟨x, -, rfl⟩ := List.mem_map.1 hu; rfl)
/-- append([]int{}, y...): the copy lies in a block of its own -/
theorem run_copy {t : TypeId} (ht : Try.prog.underlying t = some (.slice 3)) {w : World} {v : Value} {y : List Int} (h : IntsAt w v y) (hl : y.length ≤ 1000000) :
    ∃ A cap w', (Builtin.append_ #[t, t] t #[.slice (some ⟨w.heap.size, 0, none⟩) 0 0, v]).run Try.prog (w.alloc (.cells #[] 3)) = .ok (.slice A y.length cap) w' ∧
      Below w.heap.size w w' ∧ OwnI w.heap.size w' (.slice A y.length cap) y := by
  obtain ⟨i, hi, hz, hs, hby⟩ := info3p
  have hal : Below w.heap.size w (w.alloc (.cells #[] 3)) := (Below.refl _ _).alloc (Nat.le_refl _) _
  have hnew := heap_alloc_new w (.cells #[] 3)
  have hsz : (w.alloc (.cells #[] 3)).heap.size = w.heap.size + 1 := by simp
  have hsrc := src_ints ht (h.below hal)
  generalize w.alloc (.cells #[] 3) = W at *
  rcases Nat.eq_zero_or_pos y.length with h0 | h0
  · obtain rfl : y = [] := List.length_eq_zero_iff.1 h0
    have := run_append_room_src (P := Try.prog) W t t t 3 i ht hi w.heap.size 0 0 0 v 0 [] (by rw [hs]; exact hsrc) (Nat.le_refl _) (fun j hj => absurd hj (by simp)) (fun j hj => absurd hj (by simp))
    exact ⟨_, 0, W, this, hal, rfl, .inr ⟨w.heap.size, 0, #[], rfl, Nat.le_refl _, hnew, Nat.le_refl _, by simp, rfl, rfl⟩⟩
  · have hold : (Builtin.firstCells i.size 0 (.slice (some ⟨w.heap.size, 0, none⟩) 0 0)).run Try.prog W.drew = .ok ([] : List Value).toArray W.drew := by
      rw [hs]
      exact run_firstCells_some W.drew 1 0 ⟨w.heap.size, 0, none⟩ 0 0 [] rfl (fun j u hu => by simp at hu)
    have hg := run_append_grow_src (P := Try.prog) W t t t 3 i (.int .i64 0) ht hi hz (some ⟨w.heap.size, 0, none⟩) 0 0 [] hold v y.length (ints y) (by rw [hs]; exact hsrc) (by omega) (by omega) (growslice_fits (by omega) (by rw [hby]; omega))
    simp only [Nat.zero_add, List.nil_append] at hg
    have hcm := grownCap_le_maxLen W y.length 0 3 (by unfold maxLen; omega)
    have hcg := grownCap_ge W y.length 0 3
    refine ⟨_, _, _, hg, hal.trans ⟨rfl, rfl, rfl, by simp, fun k hk => (Below.heap_alloc W.drew _ k (by show k < W.heap.size; omega))⟩, by simp [ints], .inr ⟨W.heap.size, _, _, rfl, by omega, heap_alloc_new W.drew _, hcg, hcm, ?_, ?_⟩⟩
    · simp [ints, size_zeroCells, Value.cells]
      omega
    · simp [ints]
theorem eqnil_none (w : World) (n c : Nat) : (binOp .eql 25 (.slice none n c) (.slice none 0 0)).run Try.prog w = .ok (.bool true) w := by kernel_rfl
theorem eqnil_some (w : World) (a : Addr) (n c : Nat) : (binOp .eql 25 (.slice (some a) n c) (.slice none 0 0)).run Try.prog w = .ok (.bool false) w := by kernel_rfl
set_option maxRecDepth 100000 in
theorem clone71_any (w : World) (v : Value) (xs : List Int) (h : IntsAt w v xs) (hl : xs.length ≤ 1000000) :
    Calls Try.prog 95 #[v] w fun e w' => ∃ A c, e = .returned (.slice A xs.length c) ∧ OwnI w.heap.size w' (.slice A xs.length c) xs ∧ Below w.heap.size w w' := by
  obtain ⟨A0, c0, w', hr, hb, ho⟩ := run_copy Try.underlying25 h hl
  have HR := Lib.hid hr
  have HB := Lib.hid hb
  have HO := Lib.hid ho
  obtain ⟨A, cap, rfl, hcap, hmax, hc⟩ := h.open_
  cases A with
  | none =>
    have h0 : xs = [] := by
      rcases Nat.eq_zero_or_pos xs.length with h0 | h0
      · exact List.length_eq_zero_iff.1 h0
      · obtain ⟨b, off, hx, -⟩ := hc h0
        cases hx
    clear hr hb ho hc h HR HB HO
    subst h0
    have hq := eqnil_none w
    go_enter Try.func95, Try.ntmps95
    go_wp2_with fail
    go_ret
    exact ⟨none, 0, rfl, World.ownsRow_nil _ _ _ _, Below.refl _ _⟩
  | some a =>
    clear hr hb ho hc h
    have hq := eqnil_some w
    go_enter Try.func95, Try.ntmps95
    go_wp2_with ((with_reducible refine wpList_sel 7 ?_); refine wpList_val rfl (r_app (.tmp 5) (.tmp 6) 25 rfl rfl rfl HR.out) ?_)
    go_ret
    exact ⟨_, _, rfl, HO.out, HB.out⟩
end Go.Proofs
namespace Go.Proofs
open Go.RowKit Go.Shelf Go.Proofs.Ct
def Mild (x : Int) : Prop := -4611686018427387903 ≤ x ∧ x ≤ 4611686018427387903
theorem Mild.fits {w : List Int} (h : ∀ x ∈ w, Mild x) : Fits w := fun x hx => by
  have := h x hx
  unfold Mild at this
  omega
theorem Mild.at_ {w : List Int} (h : ∀ x ∈ w, Mild x) (k : Nat) : Mild (w.getD k 0) := by
  rw [List.getD_eq_getElem?_getD]
  rcases Nat.lt_or_ge k w.length with hk | hk
  · rw [List.getElem?_eq_getElem hk]; exact h _ (List.getElem_mem hk)
  · rw [List.getElem?_eq_none hk]; exact ⟨by simp, by simp⟩
theorem owns_take {w : World} {base : Nat} {A : Option Addr} {n c : Nat} {xs : List Int} (h : w.ownsRow base 3 1 (.slice A n c) n (ints xs)) {k : Nat} (hk : k ≤ n) : w.ownsRow base 3 1 (.slice A k c) k (ints (xs.take k)) := by
  obtain ⟨hl, h2⟩ := h
  have hxl : xs.length = n := by simpa [ints] using hl
  refine ⟨by simp [ints]; omega, ?_⟩
  rcases h2 with ⟨e, h0⟩ | ⟨g, cap, cur, e, hb, hg, hnc, hcm, hcs, ht⟩
  · cases e
    obtain rfl : k = 0 := by omega
    exact .inl ⟨rfl, rfl⟩
  · cases e
    refine .inr ⟨g, c, cur, rfl, hb, hg, by omega, hcm, hcs, ?_⟩
    have : ints (xs.take k) = (ints xs).take k := by simp [ints, List.map_take]
    rw [this, ← ht, List.take_take]
    congr 1
    omega
def RedPost (x : List Int) (w : World) (e : Ending) (w' : World) : Prop := ∃ A c, e = .returned (.slice A (red x).length c) ∧ OwnI w.heap.size w' (.slice A (red x).length c) (red x) ∧ Below w.heap.size w w'
end Go.Proofs
namespace Go.Proofs
open Go.RowKit Go.Shelf Go.Proofs.Ct
theorem run_append_nil2 {P : Program} (w : World) (base : Nat) (t ty e : TypeId) (i : TypeInfo) (ht : P.underlying t = some (.slice e)) (hi : P.info? e = some i) (c : Nat)
    (v : Value) (n : Nat) (xs : List Value) (hown : w.ownsRow base e 1 v n xs) : (Builtin.append_ #[t, t] ty #[v, .slice none 0 c]).run P w = .ok v w := by
  rcases hown.2 with ⟨rfl, rfl⟩ | ⟨g, cap, cur, rfl, _, _, hnc, _⟩
  · simp [Builtin.append_, run_underlying ht, sizeOf, typeInfo, hi, Builtin.lenOf, Builtin.firstCells]
  · simp [Builtin.append_, run_underlying ht, sizeOf, typeInfo, hi, Builtin.lenOf, Builtin.firstCells, hnc, storeCells]
/-- append(v, u...): u readable, v of the call's own -/
theorem run_append_ints (ty t : TypeId) (ht : Try.prog.underlying t = some (.slice 3)) (w : World) (base : Nat) (v u : Value) (x y : List Int) (h : OwnI base w v x) (hu : IntsAt w u y) (hx : x.length ≤ 1000000) (hy : y.length ≤ 1000000) (hb : base ≤ w.heap.size) :
    ∃ A' c' w', (Builtin.append_ #[t, t] ty #[v, u]).run Try.prog w = .ok (.slice A' (x ++ y).length c') w' ∧ OwnI base w' (.slice A' (x ++ y).length c') (x ++ y) ∧ w.grownBy w' v.ownBlock ∧
      ((Value.slice A' (x ++ y).length c').ownBlock = v.ownBlock ∨ ∃ r, (Value.slice A' (x ++ y).length c').ownBlock = some r ∧ w.heap.size ≤ r) := by
  obtain ⟨i3, hi3, hz3, hs3, hb3⟩ := info3p
  have hl : (x ++ y).length = x.length + y.length := List.length_append
  obtain ⟨A, c, rfl, hc1, hc2, hc⟩ := hu.open_
  cases A with
  | none =>
    have h0 : y = [] := by
      rcases Nat.eq_zero_or_pos y.length with h0 | h0
      · exact List.length_eq_zero_iff.1 h0
      · obtain ⟨b, off, hx, -⟩ := hc h0
        cases hx
    subst h0
    obtain ⟨A', c', e⟩ := owns_form h
    subst e
    rw [List.append_nil]
    exact ⟨A', c', w, run_append_nil2 w base t ty 3 i3 ht hi3 c _ _ _ h, h, World.grownBy.refl w _, .inl rfl⟩
  | some a =>
    have hcells : ∀ j u, (ints y)[j]? = some u → w.cell? (a.add j) = some u := by
      intro j u hju
      have hj : j < y.length := by
        have := (List.getElem?_eq_some_iff.1 hju).1
        simpa [ints] using this
      obtain ⟨b, off, e, hcc⟩ := hc (by omega)
      cases e
      rw [Addr.add_lit, hcc j hj, ← hju]
      simp [ints, hj, List.getD_eq_getElem?_getD]
    obtain ⟨v', w', hr, hown, hg, -, hw⟩ := run_append_own_at (P := Try.prog) w base t ty 3 i3 (.int .i64 0) 1 8 ht hi3 hz3 hs3 hb3 rfl (by omega) v x.length (ints x) h a y.length c (ints y) (by simp [ints]) hcells (fun u hu => by
      obtain ⟨z, -, rfl⟩ := List.mem_map.1 hu; rfl) (by unfold maxLen; omega) (by omega) hb
    obtain ⟨A', c', rfl⟩ := owns_form hown
    refine ⟨A', c', w', by rw [hr, hl], by unfold OwnI; rw [hl, ints_app]; exact hown, hg, by rw [hl]; exact hw.imp id fun hh => ⟨_, hh, Nat.le_refl _⟩⟩
theorem mild_inv {w : List Int} (h : ∀ z ∈ w, Mild z) : ∀ z ∈ inv w, Mild z := fun z hz => by
  have := h _ (mem_inv hz)
  unfold Mild at *
  omega
end Go.Proofs
namespace Go.Proofs
open Go.RowKit Go.Shelf Go.Proofs.Ct
theorem RedPost.base {x : List Int} {w w1 : World} {e : Ending} {w' : World} (hb : Below w.heap.size w w1) (h : RedPost x w1 e w') : RedPost x w e w' := by
  obtain ⟨A, c, h1, h2, h3⟩ := h
  exact ⟨A, c, h1, owns_base h2 hb.size, hb.trans (h3.mono hb.size)⟩
theorem run_append_zeros (w : World) (n : Nat) (h0 : 0 < n) (hn : n ≤ 1000000) :
    (Builtin.append_ #[25, 3] 25 #[.slice none 0 0, .int .i64 (n : Int)]).run Try.prog w =
      .ok (.slice (some ⟨w.heap.size, 0, none⟩) n (grownCap w n 0 3)) (w.drew.alloc (.cells (Builtin.zeroCells #[.int .i64 0] n ++ Builtin.zeroCells #[.int .i64 0] (grownCap w n 0 3 - n)) 3)) := by
  obtain ⟨i, hi, hz, hs, hby⟩ := info3p
  have hwr : IntKind.i64.wrap (n : Int) = n := IntWalk.i64_in _ (by omega)
  have hn0 : n ≠ 0 := by omega
  have h48 : ¬ (281474976710656 < Builtin.nextslicecap n 0 * i.bytes) := by rw [nextslicecap_zero h0, hby]; omega
  have h48' : ¬ ((281474976710656 : Int) < (n : Int) * (i.bytes : Int)) := by rw [hby]; omega
  have h63' : ¬ (9223372036854775807 < (n : Int)) := by omega
  have hneg : ¬ ((n : Int) < 0) := by omega
  simp [Builtin.append_, run_underlying Try.underlying25, run_underlying Try.underlying3, sizeOf, typeInfo, zeroValue, hi, hz, hs, asInt, asIntOf, hwr, hneg, h48', hn0, h48, h63', Question.forced, run_firstCells_none, newRow, grownCap, Value.cells]
theorem r_app2 {o : Oper} {a : Act} {w w' : World} (s x : Operand) (t u : TypeId) {sv xv v' : Value} (ho : o.op = .call { callee := .builtin .append, args := #[s, x], argTypes := #[t, u] }) (hs : a.eval s = sv) (hx : a.eval x = xv)
    (hr : (Builtin.append_ #[t, u] o.type #[sv, xv]).run Try.prog w = .ok v' w') : (execOp a.eval o).run Try.prog w = .ok (.value v') w' := by
  unfold execOp
  simp only [ho, resolve, invoke, builtin, Sem.run_bind, Sem.run_pure, Result.andThen_ok, List.map_toArray, List.map_cons, List.map_nil, hs, hx, hr]
def GrowPost (w : World) (e : Ending) (w' : World) : Prop := ∃ A c, e = .returned (.slice A 0 c) ∧ OwnI w.heap.size w' (.slice A 0 c) [] ∧ Below w.heap.size w w'
set_option maxRecDepth 100000 in
theorem grow135_any (w : World) (n : Nat) (hn : n ≤ 1000000) : Calls Try.prog 181 #[.slice none 0 0, .int .i64 (n : Int)] w (GrowPost w) := by
  have hn0 : (0 : Int) ≤ (n : Int) := Int.natCast_nonneg _
  have hn1 : (n : Int) ≤ 1000000 := by omega
  by_cases h0 : n = 0
  · subst h0
    go_enter Try.func181, Try.ntmps181
    go_wp2_with fail
    go_ret
    exact ⟨none, 0, rfl, World.ownsRow_nil _ _ _ _, Below.refl _ _⟩
  · have hpos : (0 : Int) < (n : Int) := by omega
    have hr := run_append_zeros w n (by omega) hn
    have hcm := grownCap_le_maxLen w n 0 3 (by unfold maxLen; omega)
    have hcg := grownCap_ge w n 0 3
    have hsz : (Builtin.zeroCells #[Value.int .i64 0] n ++ Builtin.zeroCells #[Value.int .i64 0] (grownCap w n 0 3 - n)).size = grownCap w n 0 3 := by
      simp [size_zeroCells]; omega
    have hnew := heap_alloc_new w.drew (.cells (Builtin.zeroCells #[Value.int .i64 0] n ++ Builtin.zeroCells #[Value.int .i64 0] (grownCap w n 0 3 - n)) 3)
    have hbel : Below w.heap.size w (w.drew.alloc (.cells (Builtin.zeroCells #[Value.int .i64 0] n ++ Builtin.zeroCells #[Value.int .i64 0] (grownCap w n 0 3 - n)) 3)) := (below_drewN (Below.refl w.heap.size w) 1).alloc (Nat.le_refl _) _
    generalize Builtin.zeroCells #[Value.int .i64 0] n ++ Builtin.zeroCells #[Value.int .i64 0] (grownCap w n 0 3 - n) = C at *
    generalize grownCap w n 0 3 = cap at *
    have hown : OwnI w.heap.size (w.drew.alloc (.cells C 3)) (.slice (some ⟨w.heap.size, 0, none⟩) 0 cap) [] := ⟨rfl, .inr ⟨w.heap.size, cap, C, rfl, Nat.le_refl _, hnew, Nat.zero_le _, hcm, by omega, by simp [ints]⟩⟩
    generalize w.drew.alloc (.cells C 3) = W at *
    have hcm' : cap ≤ 9223372036854775807 := by unfold maxLen at hcm; exact hcm
    have hcg' : (n : Int) ≤ (cap : Int) := by omega
    have HR := Lib.hid hr
    have HO := Lib.hid hown
    have HB := Lib.hid hbel
    clear hr hown hbel hnew hsz hcm
    go_enter Try.func181, Try.ntmps181
    go_wp2_with ((with_reducible refine wpList_sel 22 ?_); refine wpList_val rfl (r_app2 (.tmp 20) (.tmp 21) 25 3 rfl rfl rfl HR.out) ?_)
    go_ret
    exact ⟨_, cap, rfl, HO.out, HB.out⟩
/-- the lists before the k-th, one after the other -/
def flatTo (xs : List (List Int)) (k : Nat) : List Int := foldTo (fun k l => l ++ xs.getD k []) k []
def sumTo (xs : List (List Int)) (k : Nat) : Nat := foldTo (fun k l => l + (xs.getD k []).length) k 0
theorem flatTo_length (xs : List (List Int)) : ∀ k, (flatTo xs k).length = sumTo xs k
  | 0 => rfl
  | k + 1 => by
    show (flatTo xs k ++ xs.getD k []).length = sumTo xs k + (xs.getD k []).length
    rw [List.length_append, flatTo_length xs k]
theorem sumTo_mono (xs : List (List Int)) {k m : Nat} (h : k ≤ m) : sumTo xs k ≤ sumTo xs m := by
  obtain ⟨d, rfl⟩ := Nat.exists_eq_add_of_le h
  clear h
  induction d with
  | zero => exact Nat.le_refl _
  | succ d ih => exact Nat.le_trans ih (Nat.le_add_right _ _)
def CatPost (x : List Int) (w : World) (e : Ending) (w' : World) : Prop := ∃ A c, e = .returned (.slice A x.length c) ∧ OwnI w.heap.size w' (.slice A x.length c) x ∧ Below w.heap.size w w'
set_option maxRecDepth 100000 in
set_option maxHeartbeats 1000000 in
theorem concat100_any (w : World) (v : Value) (xs : List (List Int)) (h : Tab w v xs) (hl : sumTo xs xs.length ≤ 1000000) : Calls Try.prog 124 #[v] w (CatPost (flatTo xs xs.length) w) := by
  obtain ⟨A0, c0, rfl, hc1, hc2, hc⟩ := h.open_
  have HC := Lib.hid hc
  clear hc h
  have hx0 : (0 : Int) ≤ (xs.length : Int) := Int.natCast_nonneg _
  go_enter Try.func124, Try.ntmps124
  go_wp2_with fail
  go_loop [3, 11] (fun so i => ∃ k n : Nat, i = .int .i64 k ∧ k ≤ xs.length ∧ so = .int .i64 n ∧ Hid (n = sumTo xs k)) (fun _ i => xs.length - (intOf i).toNat)
  case atStart => exact ⟨0, 0, rfl, by omega, rfl, Lib.hid rfl⟩
  case round =>
    obtain ⟨k, n, rfl, hk, rfl, HN⟩ := hrel
    have hk0 : (0 : Int) ≤ (k : Int) := Int.natCast_nonneg _
    have hn0 : (0 : Int) ≤ (n : Int) := Int.natCast_nonneg _
    by_cases hlt : k < xs.length
    · have hlt' : (k : Int) < (xs.length : Int) := by omega
      obtain ⟨b, o, rfl, hcc⟩ := HC.out (by omega)
      obtain ⟨u, hu, hI⟩ := hcc k hlt
      obtain ⟨A5, c5, rfl, h1, h2, h3⟩ := hI.open_
      have hst : sumTo xs (k + 1) = sumTo xs k + (xs.getD k []).length := rfl
      have hmo := sumTo_mono xs (k := k + 1) (m := xs.length) (by omega)
      have hb : (n : Int) + ((xs.getD k []).length : Int) ≤ 1000000 := by have := HN.out; omega
      have HN2 : Hid (n + (xs.getD k []).length = sumTo xs (k + 1)) := Lib.hid (by rw [hst, HN.out])
      clear hcc hI h3 hst hmo
      generalize (xs.getD k []).length = q at *
      have hq0 : (0 : Int) ≤ (q : Int) := Int.natCast_nonneg _
      go_wp2_with fail
      go_round
      case rel => exact ⟨k + 1, n + q, by go_num, by omega, by go_num, HN2⟩
      case measure => simp [intOf]; omega
    · obtain rfl : k = xs.length := by omega
      have HG := Lib.hid (grow135_any w n (by have := HN.out; omega))
      go_wp2_with (go_at_call 181; (refine HG.out.mono ?_); rintro e w1 ⟨A1, c1, rfl, ho, hb⟩; have HO := Lib.hid ho; have HB := Lib.hid hb; clear ho hb)
      go_loopw [6, 27] (fun so i wr => ∃ k n : Nat, i = .int .i64 k ∧ k ≤ xs.length ∧ Hid (n = (flatTo xs k).length) ∧ ∃ A c, so = .slice A n c ∧ Hid (OwnI w.heap.size wr so (flatTo xs k) ∧ Below w.heap.size w wr)) (fun _ i _ => xs.length - (intOf i).toNat)
      case atStart => exact ⟨0, 0, rfl, by omega, Lib.hid rfl, _, _, rfl, Lib.hid ⟨HO.out, HB.out⟩⟩
      case round =>
        clear HO HB HG HN hn0 hk0
        obtain ⟨k, n, rfl, hk, HN, A, c, rfl, HS⟩ := hrel
        have hk0 : (0 : Int) ≤ (k : Int) := Int.natCast_nonneg _
        by_cases hlt : k < xs.length
        · have hlt' : (k : Int) < (xs.length : Int) := by omega
          obtain ⟨b, o, rfl, hcc⟩ := HC.out (by omega)
          obtain ⟨u, hu, hI⟩ := hcc k hlt
          have hu' := (HS.out.2.cell (p := ⟨b, o + k, none⟩) (World.block_lt_of_cell? w _ hu)).trans hu
          have hmo := sumTo_mono xs (k := k + 1) (m := xs.length) (by omega)
          have hst : sumTo xs (k + 1) = sumTo xs k + (xs.getD k []).length := rfl
          have hfl := flatTo_length xs k
          obtain ⟨A', c', w', hr, ho, hg, -⟩ := run_append_ints 25 25 Try.underlying25 wr w.heap.size (.slice A n c) u (flatTo xs k) (xs.getD k []) HS.out.1 (hI.below HS.out.2) (by omega) (by omega) HS.out.2.size
          have hs2 : flatTo xs k ++ xs.getD k [] = flatTo xs (k + 1) := rfl
          rw [hs2] at hr ho
          have HR := Lib.hid hr
          have HS2 : Hid (OwnI w.heap.size w' (.slice A' (flatTo xs (k + 1)).length c') (flatTo xs (k + 1)) ∧ Below w.heap.size w w') := Lib.hid ⟨ho, HS.out.2.grown hg HS.out.2.size (fun r hr => (owns_block HS.out.1 r hr).1)⟩
          clear hcc hu hI hmo hst hfl hr ho hg hs2
          go_wp2_with ((with_reducible refine wpList_sel 33 ?_); refine wpList_val rfl (r_app (.tmp 31) (.tmp 32) 25 rfl rfl rfl HR.out) ?_)
          go_roundw
          case rel => exact ⟨k + 1, _, by go_num, by omega, Lib.hid rfl, _, _, rfl, HS2⟩
          case measure => simp [intOf]; omega
        · obtain rfl : k = xs.length := by omega
          go_wp2_with fail
          go_ret
          exact ⟨A, c, by rw [← HN.out]; rfl, by rw [← HN.out]; exact HS.out.1, HS.out.2⟩
end Go.Proofs
namespace Go.Proofs
open Go.RowKit Go.Shelf Go.Proofs.Ct Go.Maps Go.WideMaps
theorem laidOutT : laidOutB Try.prog = true := by kernel_rfl
theorem row102 : (109 : TypeId) < Try.prog.types.size := of_decide_eq_true (by kernel_rfl)
theorem law102 : Keyed Try.prog 109 := Keyed.of_law (deep_law_laid laidOutT (m := 2) (by omega) row102 (by kernel_rfl) (by
  have h := Try.underlying109
  generalize Try.prog.underlying 109 = u at *
  subst h
  rfl))
theorem cells102 : Try.prog.cellsOf 109 = 2 := by kernel_rfl
theorem formed102 {c0 c1 : Value} : (Value.agg #[c0, c1]).formed Try.prog 109 = true := by simp [Value.formed, Try.underlying109, cells102]
theorem cells3 : Try.prog.cellsOf 3 = 1 := by kernel_rfl
theorem lits3 {a : Int} (ha : I64 a) (d : Nat) : Try.prog.keyLits (d + 1) 3 [.int .i64 a] = some [.int .i64 a] := by
  have wa := WalkArith.wf_i64 ha
  unfold Program.keyLits
  rw [Try.underlying3]
  simp [wa]
theorem lits102 {a b : Int} (ha : I64 a) (hb : I64 b) (d : Nat) : Try.prog.keyLits (d + 2) 109 [.int .i64 a, .int .i64 b] = some [.int .i64 a, .int .i64 b] := by
  have h := Try.underlying109
  unfold Program.keyLits
  generalize Try.prog.underlying 109 = u at *
  subst h
  simp only [cells102, cells3, List.length_cons, List.length_nil, if_true]
  have h1 := lits3 ha d
  have h2 := lits3 hb d
  simp [List.range_succ, h1, h2]
theorem keyType102 : Try.prog.keyType 109 = true := by kernel_rfl
theorem key102 {a b : Int} (ha : I64 a) (hb : I64 b) : ∃ l, keyOf Try.prog 109 (.agg #[.int .i64 a, .int .i64 b]) = some l := by
  obtain ⟨d, hd⟩ : ∃ d, Try.prog.types.size + 1 = d + 2 := ⟨Try.prog.types.size - 1, by have : (109 : Nat) < Try.prog.types.size := row102; omega⟩
  have hl := lits102 ha hb d
  refine ⟨.string (keyBytes [.int .i64 a, .int .i64 b]), ?_⟩
  have h := Try.underlying109
  have hf : (Value.agg #[.int .i64 a, .int .i64 b]).formed Try.prog 109 = true := formed102
  unfold keyOf
  rw [keyType102, hf, hd]
  generalize Try.prog.underlying 109 = u at *
  subst h
  simp [Value.cells, hl]
end Go.Proofs
namespace Go.Proofs
open Go.RowKit Go.Shelf Go.Proofs.Ct Go.Maps
def pkey (r g : Nat) : Value := .agg #[.int .i64 (r : Int), .int .i64 ((g + 1 : Nat) : Int)]
def Sml (r g : Nat) : Prop := r ≤ 1000000 ∧ g ≤ 1000000
theorem pkey_lit {r g : Nat} (h : Sml r g) : ∃ l, keyOf Try.prog 109 (pkey r g) = some l := key102 ⟨by omega, by have := h.1; omega⟩ ⟨by omega, by have := h.2; omega⟩
theorem pkey_inj {r g r' g' : Nat} {l : Lit} (h : keyOf Try.prog 109 (pkey r g) = some l) (h' : keyOf Try.prog 109 (pkey r' g') = some l) : r = r' ∧ g = g' := by
  have := law102.inj h h'
  unfold pkey at this
  injection this with h1
  have h2 : (r : Int) = r' := by have := congrArg (fun a : Array Value => a[0]?) h1; simpa using this
  have h3 : ((g + 1 : Nat) : Int) = ((g' + 1 : Nat) : Int) := by have := congrArg (fun a : Array Value => a[1]?) h1; simpa using this
  omega
/-- block b is a map from the pairs of ps to their places, from 1 on -/
def MapP (w : World) (b : Nat) (ps : List (Nat × Nat)) : Prop :=
  ∃ n D, n ≤ ps.length ∧ w.ownsMap (H := Unit) Try.prog 109 (plainElem Try.prog 3) b n D ∧
    ∀ r g l, Sml r g → keyOf Try.prog 109 (pkey r g) = some l → D.atKey l (.lit (.int .i64 0)) = .lit (.int .i64 (placeP ps r g))
theorem MapP.made (w : World) : MapP (w.alloc (.map #[] 0)) w.heap.size [] :=
  ⟨0, .map [], Nat.le_refl _, World.ownsMap_made _ _ _ _, fun r g l _ _ => by simp [placeP, DataW.atKey]⟩
theorem MapP.kept {w w' : World} {b : Nat} {ps : List (Nat × Nat)} {row : Option Nat} (h : MapP w b ps) (hg : w.grownBy w' row) (hne : row ≠ some b) : MapP w' b ps := by
  obtain ⟨n, D, h1, h2, h3⟩ := h
  exact ⟨n, D, h1, h2.kept hg (Ne.symm hne), h3⟩
theorem MapP.lt {w : World} {b : Nat} {ps : List (Nat × Nat)} (h : MapP w b ps) : b < w.heap.size := by
  obtain ⟨n, D, h1, h2, h3⟩ := h
  exact h2.lt
theorem MapP.below {w w' : World} {b : Nat} {ps : List (Nat × Nat)} (h : MapP w b ps) (hb : Below w.heap.size w w') : MapP w' b ps :=
  h.kept (row := none) ⟨hb.os, hb.tape, hb.output, hb.size, fun k hk _ => hb.block k hk⟩ (by simp)
theorem MapP.isMapObj {w : World} {b : Nat} {ps : List (Nat × Nat)} (h : MapP w b ps) : ∃ es clock, w.heap[b]? = some (.map es clock) := by
  obtain ⟨n, D, h1, ⟨es, clock, hb, -⟩, h3⟩ := h
  exact ⟨es, clock, hb⟩
theorem MapP.look {w : World} {b : Nat} {ps : List (Nat × Nat)} (h : MapP w b ps) {r g : Nat} (hs : Sml r g) : (Instr.lookup 97 (.map (some b)) (pkey r g) false).run Try.prog w = .ok (.int .i64 (placeP ps r g)) w := by
  obtain ⟨n, D, h1, h2, h3⟩ := h
  obtain ⟨l, hl⟩ := pkey_lit hs
  obtain ⟨c, hr, hat, -⟩ := h2.lookup_int law102 Try.underlying97 Try.underlying3 (zero3 w) hl
  rw [h3 r g l hs hl] at hat
  have : placeP ps r g = c := by simpa using hat
  rw [this]
  exact hr
theorem placeP_new {ps : List (Nat × Nat)} {r g : Nat} (hn : (r, g) ∉ ps) : placeP (ps ++ [(r, g)]) r g = (ps.length : Int) + 1 := by
  unfold placeP
  rw [if_pos (by simp), List.idxOf_append, if_neg hn]
  simp
theorem placeP_old {ps : List (Nat × Nat)} {r g r' g' : Nat} (hne : ¬ (r' = r ∧ g' = g)) : placeP (ps ++ [(r, g)]) r' g' = placeP ps r' g' := by
  unfold placeP
  have hne' : (r', g') ≠ (r, g) := fun e => hne ⟨congrArg Prod.fst e, congrArg Prod.snd e⟩
  by_cases hm : (r', g') ∈ ps
  · rw [if_pos hm, if_pos (by simp [hm]), List.idxOf_append, if_pos hm]
  · rw [if_neg hm, if_neg (by simp [hm]; exact fun e h => hne ⟨e, h⟩)]
theorem MapP.put {w : World} {b : Nat} {ps : List (Nat × Nat)} (h : MapP w b ps) {r g : Nat} (hs : Sml r g) (hl : ps.length ≤ 1000000) (hn : (r, g) ∉ ps) :
    ∃ w', (Instr.mapUpdate 97 (.map (some b)) (pkey r g) (.int .i64 ((ps.length : Int) + 1))).run Try.prog w = .ok () w' ∧ MapP w' b (ps ++ [(r, g)]) ∧ w.grownBy w' (some b) := by
  obtain ⟨n, D, h1, h2, h3⟩ := h
  obtain ⟨l, hkl⟩ := pkey_lit hs
  obtain ⟨w', hr, ho, hg⟩ := h2.update (val := .int .i64 ((ps.length : Int) + 1)) law102 Try.underlying97 (by unfold maxLen; omega) hkl (plainElem_int Try.underlying3 (WalkArith.wf_i64 (by omega)))
  refine ⟨w', hr, ⟨n + 1, _, by simp; omega, ho, fun r' g' l' hs' hl' => ?_⟩, hg⟩
  by_cases e : r' = r ∧ g' = g
  · obtain ⟨rfl, rfl⟩ := e
    have : l' = l := by rw [hkl] at hl'; exact (Option.some.inj hl').symm
    subst this
    rw [Maps.atKey_put_same h2.isMap (law102.key hkl), placeP_new hn]
  · have hne : l' ≠ l := fun e' => e (by subst e'; exact pkey_inj hl' hkl)
    rw [Maps.atKey_put_other hne, h3 r' g' l' hs' hl', placeP_old e]
/-- the cells of a list of pairs -/
def pcells (ps : List (Nat × Nat)) : List Value := ps.flatMap fun p => [.int .i64 (p.1 : Int), .int .i64 ((p.2 + 1 : Nat) : Int)]
theorem pcells_snoc (ps : List (Nat × Nat)) (p : Nat × Nat) : pcells (ps ++ [p]) = pcells ps ++ [.int .i64 (p.1 : Int), .int .i64 ((p.2 + 1 : Nat) : Int)] := by simp [pcells]
abbrev OwnP (base : Nat) (w : World) (v : Value) (ps : List (Nat × Nat)) : Prop := w.ownsRow base 109 2 v ps.length (pcells ps)
theorem info102p : ∃ i, Try.prog.info? 109 = some i ∧ i.zero = some (.agg #[.int .i64 0, .int .i64 0]) ∧ i.size = 2 ∧ i.bytes = 16 := by
  have h : (Try.prog.info? 109).map (fun i => (i.zero, i.size, i.bytes)) = some (some (.agg #[.int .i64 0, .int .i64 0]), 2, 16) := by kernel_rfl
  cases hq : Try.prog.info? 109 with
  | none => simp [hq] at h
  | some i => simp [hq] at h; exact ⟨i, rfl, h⟩
theorem owns_form2 {w : World} {base e size n : Nat} {v : Value} {xs : List Value} (h : w.ownsRow base e size v n xs) : ∃ A c, v = .slice A n c := by
  rcases h.2 with ⟨rfl, rfl⟩ | ⟨g, cap, cur, rfl, -⟩
  · exact ⟨none, 0, rfl⟩
  · exact ⟨_, _, rfl⟩
theorem owns_block2 {w : World} {base e size n : Nat} {v : Value} {xs : List Value} (h : w.ownsRow base e size v n xs) : ∀ r, v.ownBlock = some r → base ≤ r ∧ ∃ C, w.heap[r]? = some (.cells C e (0, 0)) := fun r hr => by
  rcases h.2 with ⟨rfl, -⟩ | ⟨g, cap, cur, rfl, hb, hg, -⟩
  · cases hr
  · have : g = r := Option.some.inj hr
    subst this
    exact ⟨hb, cur, hg⟩
theorem push_pair (w : World) (base : Nat) (v : Value) (ps : List (Nat × Nat)) (h : OwnP base w v ps) (p : Nat × Nat) (hx : ps.length ≤ 1000000) (hb : base ≤ w.heap.size) :
    ∃ A' c' w', (Builtin.append_ #[98, 98] 98 #[v, .slice (some ⟨w.heap.size, 0, none⟩) 1 1]).run Try.prog (w.alloc (.cells #[.int .i64 (p.1 : Int), .int .i64 ((p.2 + 1 : Nat) : Int)] 109)) = .ok (.slice A' (ps.length + 1) c') w' ∧ OwnP base w' (.slice A' (ps.length + 1) c') (ps ++ [p]) ∧
      w.grownBy w' v.ownBlock := by
  obtain ⟨i, hi, hz, hs, hby⟩ := info102p
  have hal : Below w.heap.size w (w.alloc (.cells #[.int .i64 (p.1 : Int), .int .i64 ((p.2 + 1 : Nat) : Int)] 109)) := (Below.refl _ _).alloc (Nat.le_refl _) _
  obtain ⟨v', w', hr, hown', hg, -, hw⟩ := run_append_own_at (P := Try.prog) (w.alloc (.cells #[.int .i64 (p.1 : Int), .int .i64 ((p.2 + 1 : Nat) : Int)] 109)) base 98 98 109 i (.agg #[.int .i64 0, .int .i64 0]) 2 16 Try.underlying98 hi hz hs hby rfl (by omega) v ps.length (pcells ps) (owns_below h hal) ⟨w.heap.size, 0, none⟩ 1 1 [.int .i64 (p.1 : Int), .int .i64 ((p.2 + 1 : Nat) : Int)] rfl
    (fun j u hj => by
      rw [Addr.add_lit, cell_of_row _ _ _ _ _ _ (heap_alloc_new w _), Nat.zero_add]
      simpa using hj) (fun u hu => by
      have : u = .int .i64 (p.1 : Int) ∨ u = .int .i64 ((p.2 + 1 : Nat) : Int) := by simpa using hu
      rcases this with rfl | rfl <;> rfl) (by unfold maxLen; omega) (by omega) (by have := hal.size; omega)
  obtain ⟨A', c', rfl⟩ := owns_form2 hown'
  refine ⟨A', c', w', hr, ?_, ?_⟩
  · unfold OwnP
    rw [List.length_append, pcells_snoc]
    exact hown'
  · exact ⟨hg.os, hg.tape, hg.output, Nat.le_trans hal.size hg.size, fun k hk hne => (hg.block k (Nat.lt_of_lt_of_le hk hal.size) hne).trans (hal.block k hk)⟩
end Go.Proofs
namespace Go.Proofs
open Go.RowKit Go.Shelf Go.Proofs.Ct Go.Maps
theorem IntsAt.take {w : World} {A : Option Addr} {n c : Nat} {xs : List Int} (h : IntsAt w (.slice A n c) xs) {k : Nat} (hk : k ≤ n) : IntsAt w (.slice A k c) (xs.take k) := by
  obtain ⟨⟨A', n', c', e, h2, h3, h4, h5⟩, hf⟩ := h
  obtain ⟨rfl, rfl, rfl⟩ := Value.slice.inj e
  have hl : n = xs.length := by simpa [ints] using h2
  refine ⟨⟨A, k, c, rfl, by simp [ints]; omega, by omega, h4, fun hn => ?_⟩, fun x hx => hf x (List.mem_of_mem_take hx)⟩
  obtain ⟨b, off, ha, hr⟩ := h5 (by omega)
  refine ⟨b, off, ha, fun j v hv => hr j v ?_⟩
  have : ints (xs.take k) = (ints xs).take k := by simp [ints, List.map_take]
  rw [this, List.getElem?_take] at hv
  split at hv
  · exact hv
  · cases hv
end Go.Proofs
namespace Go.Proofs
open Go.RowKit Go.Shelf Go.Proofs.Ct
theorem letter_bd {c : Nat} (h : c ≤ 1000) : -1000000 ≤ letter c ∧ letter c ≤ 1000000 := by
  unfold letter
  split <;> omega
theorem OutSt.first {w w2 : World} (hB : Below w.heap.size w w2) :
    OutSt 25 (fun k => k = w2.heap.size) w ((w2.alloc (.cells #[] 3)).alloc (.cells #[.slice (some ⟨w2.heap.size, 0, none⟩) 0 0] 25)) (.slice (some ⟨w2.heap.size + 1, 0, none⟩) 1 1) [[]] := by
  have hb := allocs_below [.cells #[] 3, .cells #[.slice (some ⟨w2.heap.size, 0, none⟩) 0 0] 25] w2 w2.heap.size (Nat.le_refl _)
  have e1 := allocs_get [.cells #[] 3, .cells #[.slice (some ⟨w2.heap.size, 0, none⟩) 0 0] 25] w2 0 _ rfl
  have e2 := allocs_get [.cells #[] 3, .cells #[.slice (some ⟨w2.heap.size, 0, none⟩) 0 0] 25] w2 1 _ rfl
  have h1 := hB.size
  refine ⟨hB.trans (hb.mono h1), ⟨[.slice (some ⟨w2.heap.size, 0, none⟩) 0 0], ⟨rfl, .inr ⟨w2.heap.size + 1, 1, _, rfl, by omega, e2, Nat.le_refl _, by simp [maxLen], rfl, rfl⟩⟩, rfl, fun j hj => ?_⟩, fun k hk => ?_⟩
  · obtain rfl : j = 0 := by simpa using hj
    refine ⟨_, rfl, fun w' _ => ⟨⟨_, 0, 0, rfl, rfl, Nat.le_refl _, by simp, fun h => absurd h (by omega)⟩, fun x hx => by cases hx⟩⟩
  · subst hk
    refine ⟨h1, by simp; omega, _, e1⟩
end Go.Proofs
namespace Go.Proofs
open Go.RowKit Go.Shelf Go.Proofs.Ct Go.Maps
/-- the system of a table, as it reads -/
structure SysAt (w : World) (vt vr : Value) (bm : Nat) (vl : Value) (t : Tb) (R : List (List Int)) (ps : List (Nat × Nat)) : Prop where
  tab : Tab w vt t
  reps : Tab w vr R
  map : MapP w bm ps
  list : ∃ base, OwnP base w vl ps
theorem SysAt.below {w w' : World} {vt vr : Value} {bm : Nat} {vl : Value} {t : Tb} {R : List (List Int)} {ps : List (Nat × Nat)} (h : SysAt w vt vr bm vl t R ps) (hb : Below w.heap.size w w') : SysAt w' vt vr bm vl t R ps :=
  ⟨kept_tab.below h.tab hb, kept_tab.below h.reps hb, h.map.below hb, let ⟨base, hl⟩ := h.list; ⟨base, owns_below hl hb⟩⟩
def zero95 : Array Value := #[.slice none 0 0, .slice none 0 0, .map none, .slice none 0 0]
section
variable {o : Oper} {a : Act} {w w' : World} {n : Nat} {v : Value}
theorem r_move (x : Operand) (ho : o.op = .move x) (hx : a.eval x = v) : (execOp a.eval o).run Try.prog w = .ok (.value v) w := by
  unfold execOp
  simp only [ho, hx]
  rfl
end
end Go.Proofs
namespace Go.Proofs
open Go.RowKit Go.Shelf Go.Proofs.Ct Go.Maps
/-- the system in the making: box, map, list -/
structure OfSt (w1 wr : World) (vt u vl : Value) (ps : List (Nat × Nat)) : Prop where
  below : Below w1.heap.size w1 wr
  box : wr.heap[w1.heap.size + 1]? = some (.cells #[vt, u, .map (some w1.heap.size), vl] 102 (0, 0))
  map : MapP wr w1.heap.size ps
  list : OwnP (w1.heap.size + 2) wr vl ps
theorem OfSt.below' {w1 wr w' : World} {vt u vl : Value} {ps : List (Nat × Nat)} (h : OfSt w1 wr vt u vl ps) (hb : Below wr.heap.size wr w') : OfSt w1 w' vt u vl ps :=
  ⟨h.below.trans (hb.mono h.below.size), (hb.block _ (Array.getElem?_eq_some_iff.1 h.box).1).trans h.box, h.map.below hb, owns_below h.list hb⟩
theorem OfSt.add {w1 wr : World} {vt u vl : Value} {ps : List (Nat × Nat)} (h : OfSt w1 wr vt u vl ps) {k j : Nat} (hs : Sml k j) (hn : (k, j) ∉ ps) (hl : ps.length ≤ 400000) :
    ∃ A' c' w5 w6, (Builtin.append_ #[98, 98] 98 #[vl, .slice (some ⟨wr.heap.size, 0, none⟩) 1 1]).run Try.prog (wr.alloc (.cells #[.int .i64 (k : Int), .int .i64 ((j : Int) + 1)] 109)) = .ok (.slice A' (ps.length + 1) c') w5 ∧
      w5.cell? ⟨w1.heap.size + 1, 2, none⟩ = some (.map (some w1.heap.size)) ∧ w5.cell? ⟨w1.heap.size + 1, 3, none⟩ = some vl ∧ w5.frozen? ⟨w1.heap.size + 1, 3, none⟩ = false ∧
      (Instr.mapUpdate 97 (.map (some w1.heap.size)) (.agg #[.int .i64 (k : Int), .int .i64 ((j : Int) + 1)]) (.int .i64 ((ps.length : Int) + 1))).run Try.prog (w5.setCell ⟨w1.heap.size + 1, 3, none⟩ (.slice A' (ps.length + 1) c')) = .ok () w6 ∧
      OfSt w1 w6 vt u (.slice A' (ps.length + 1) c') (ps ++ [(k, j)]) := by
  have h1 := h.below.size
  have hbs : w1.heap.size + 1 < wr.heap.size := (Array.getElem?_eq_some_iff.1 h.box).1
  obtain ⟨A', c', w5, hr, ho, hg⟩ := push_pair wr (w1.heap.size + 2) vl ps h.list (k, j) (by omega) (by omega)
  have hvb := owns_block2 h.list
  have hne : ∀ r, r < w1.heap.size + 2 → vl.ownBlock ≠ some r := fun r hr e => by have := (hvb r e).1; omega
  have hbox5 : w5.heap[w1.heap.size + 1]? = some (.cells #[vt, u, .map (some w1.heap.size), vl] 102 (0, 0)) := grown_cells hg h.box (hne _ (by omega))
  have hmap5 : MapP w5 w1.heap.size ps := h.map.kept hg (hne _ (by omega))
  have hbel5 : Below w1.heap.size w1 w5 := h.below.grown hg h1 (fun k hk => by have := (hvb k hk).1; omega)
  have hg6 := grown_setCell w5 (w1.heap.size + 1) 3 (.slice A' (ps.length + 1) c')
  have hmap6 : MapP (w5.setCell ⟨w1.heap.size + 1, 3, none⟩ (.slice A' (ps.length + 1) c')) w1.heap.size ps := hmap5.kept hg6 (fun e => by have := Option.some.inj e; omega)
  have hbox6 : (w5.setCell ⟨w1.heap.size + 1, 3, none⟩ (.slice A' (ps.length + 1) c')).heap[w1.heap.size + 1]? = some (.cells #[vt, u, .map (some w1.heap.size), .slice A' (ps.length + 1) c'] 102 (0, 0)) := by
    simp [World.setCell, Array.getElem?_modify, hbox5]
  have hlist6 : OwnP (w1.heap.size + 2) (w5.setCell ⟨w1.heap.size + 1, 3, none⟩ (.slice A' (ps.length + 1) c')) (.slice A' (ps.length + 1) c') (ps ++ [(k, j)]) := owns_keep ho fun r hr' => by
    obtain ⟨h2, C, hC⟩ := owns_block2 ho r hr'
    exact hg6.block r (Array.getElem?_eq_some_iff.1 hC).1 (fun e => by have := Option.some.inj e; omega)
  have hbel6 : Below w1.heap.size w1 (w5.setCell ⟨w1.heap.size + 1, 3, none⟩ (.slice A' (ps.length + 1) c')) := hbel5.grown hg6 hbel5.size (fun k hk => by have := Option.some.inj hk; omega)
  obtain ⟨w6, hrm, hm7, hg7⟩ := hmap6.put hs (by omega) hn
  have hne7 : ∀ {k : Nat} {C : Array Value} {e : TypeId} {fr : Nat × Nat}, (w5.setCell ⟨w1.heap.size + 1, 3, none⟩ (.slice A' (ps.length + 1) c')).heap[k]? = some (.cells C e fr) → (some w1.heap.size : Option Nat) ≠ some k := fun {k C e fr} hc e' => by
    obtain ⟨es, cl, hmo⟩ := hmap6.isMapObj
    have : w1.heap.size = k := Option.some.inj e'
    subst this
    rw [hmo] at hc; cases hc
  refine ⟨A', c', w5, w6, hr, ?_, ?_, ?_, hrm, hbel6.grown hg7 hbel6.size (fun k hk => by cases hk; exact Nat.le_refl _), grown_cells hg7 hbox6 (hne7 hbox6), hm7, owns_keep hlist6 fun r hr' => ?_⟩
  · rw [cell_of_row _ _ _ _ _ _ hbox5]; rfl
  · rw [cell_of_row _ _ _ _ _ _ hbox5]; rfl
  · simp [World.frozen?, hbox5]
  · obtain ⟨-, C, hC⟩ := owns_block2 hlist6 r hr'
    exact (grown_cells hg7 hC (hne7 hC)).trans hC.symm
theorem OfSt.first (w1 : World) (vt u : Value) : OfSt w1 (((w1.alloc (.map #[] 0)).alloc (.cells zero95 102)).setRow (w1.heap.size + 1) #[vt, u, .map (some w1.heap.size), .slice none 0 0]) vt u (.slice none 0 0) [] := by
  have hb1 : Below w1.heap.size w1 (w1.alloc (.map #[] 0)) := (Below.refl _ _).alloc (Nat.le_refl _) _
  have hm1 := MapP.made w1
  have hb2 : Below (w1.heap.size + 1) (w1.alloc (.map #[] 0)) ((w1.alloc (.map #[] 0)).alloc (.cells zero95 102)) := (Below.refl _ _).alloc (by simp) _
  have hnew := heap_alloc_new (w1.alloc (.map #[] 0)) (.cells zero95 102)
  rw [World.size_alloc] at hnew
  have hb3 : Below (w1.heap.size + 1) ((w1.alloc (.map #[] 0)).alloc (.cells zero95 102)) (((w1.alloc (.map #[] 0)).alloc (.cells zero95 102)).setRow (w1.heap.size + 1) #[vt, u, .map (some w1.heap.size), .slice none 0 0]) :=
    ⟨rfl, rfl, rfl, by rw [World.setRow]; simp, fun k hk => setRow_other _ _ k _ (by omega)⟩
  refine ⟨(hb1.trans (hb2.mono (Nat.le_succ _))).trans (hb3.mono (Nat.le_succ _)), setRow_heap _ _ _ _ _ _ hnew, ?_, World.ownsRow_nil _ _ _ _⟩
  exact (hm1.below (hb2.mono (by simp))).kept (row := some (w1.heap.size + 1)) ⟨hb3.os, hb3.tape, hb3.output, hb3.size, fun k hk hne => setRow_other _ _ k _ (fun e => hne (by rw [e]))⟩ (fun e => by have := Option.some.inj e; omega)
end Go.Proofs
namespace Go.Proofs
open Go.RowKit Go.Shelf Go.Proofs.Ct Go.Maps
theorem OwnP.form {base : Nat} {w : World} {v : Value} {ps : List (Nat × Nat)} (h : OwnP base w v ps) : ∃ A c, v = .slice A ps.length c := owns_form2 h
theorem Tab.form {w : World} {v : Value} {xs : List (List Int)} (h : Tab w v xs) : ∃ A c, v = .slice A xs.length c := let ⟨A, c, e, _⟩ := h.open_; ⟨A, c, e⟩
theorem below_boxed {w w1 : World} (hb : Below w.heap.size w w1) (o : Obj) (cs : Array Value) : Below w.heap.size w ((w1.alloc o).setRow w1.heap.size cs) := by
  have h1 := hb.size
  have h2 : Below w.heap.size w (w1.alloc o) := hb.alloc h1 _
  exact h2.trans ⟨rfl, rfl, rfl, by rw [World.setRow]; simp, fun k hk => setRow_other _ _ k _ (by omega)⟩
end Go.Proofs
