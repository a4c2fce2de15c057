/- The state of an enumeration in memory: rows that are written, parents, a queue; Equality of tables and words; a copy by append; slices.Clone; letter; word.Reduce and cayleyref02.Reduce; word.Invert, slices.Concat, word.Mul; Maps keyed by pairs of numbers; The system of a table in memory: its map of numbers and its list of pairs; (system).grows; coset.Reps and cayleyref18.Reps. -/
import Derived.Test.YtcfighimnkfmeaaCkCS2
import Derived.Test.YtcfighimnkfmeaaCkCS4
import Derived.Test.YtcfighimnkfmeaaCkCS1
import Derived.WalkMore
import Derived.DeepKeys4
import Derived.MapViews
import Derived.WideKeyArgs
namespace Go.Proofs
open Go.RowKit Go.Shelf Go.Proofs.Ct Go.Maps
def nats (l : List Nat) : List Int := l.map Int.ofNat
theorem length_nats (l : List Nat) : (nats l).length = l.length := by simp [nats]
theorem nats_app (a b : List Nat) : nats (a ++ b) = nats a ++ nats b := by simp [nats]
theorem nats_getD (l : List Nat) (k : Nat) : (nats l).getD k 0 = (l.getD k 0 : Int) := by
  unfold nats
  by_cases h : k < l.length
  · simp [List.getD_eq_getElem?_getD, h]
  · simp [List.getD_eq_getElem?_getD, List.getElem?_eq_none (by omega : l.length ≤ k)]
/-- an element of an owned list of numbers is written -/
theorem ownI_set {base : Nat} {w : World} {v : Value} {xs : List Int} (h : OwnI base w v xs) {g k : Nat} (hg : v.ownBlock = some g) (_hk : k < xs.length) (z : Int) : OwnI base (w.setCell ⟨g, k, none⟩ (.int .i64 z)) v (xs.set k z) := by
  obtain ⟨hl, h⟩ := h
  rcases h with ⟨rfl, -⟩ | ⟨g', cap, cur, rfl, hb, hc, hn, hm, hs, ht⟩
  · cases hg
  · obtain rfl : g' = g := Option.some.inj hg
    refine ⟨by simp [ints], .inr ⟨g', cap, cur.setIfInBounds k (.int .i64 z), by simp, hb, by simp [World.setCell, Array.getElem?_modify, hc], by simpa using hn, hm, by simpa using hs, ?_⟩⟩
    rw [Array.toList_setIfInBounds, List.take_set, List.length_set, ht]
    simp [ints, List.map_set]
theorem ownI_cell {base : Nat} {w : World} {v : Value} {xs : List Int} (h : OwnI base w v xs) (hn : 0 < xs.length) : ∃ g c, v = .slice (some ⟨g, 0, none⟩) xs.length c ∧ base ≤ g ∧ g < w.heap.size ∧ (∀ k, k < xs.length → w.cell? ⟨g, k, none⟩ = some (.int .i64 (xs.getD k 0))) ∧ ∀ k, w.frozen? ⟨g, k, none⟩ = false := by
  obtain ⟨hl, h⟩ := h
  rcases h with ⟨rfl, h0⟩ | ⟨g, cap, cur, rfl, hb, hc, h1, hm, hs, ht⟩
  · omega
  · refine ⟨g, cap, rfl, hb, (Array.getElem?_eq_some_iff.1 hc).1, fun k hk => ?_, fun k => by simp [World.frozen?, hc]⟩
    rw [cell_of_row _ _ _ _ _ _ hc]
    have h2 : (cur.toList.take (xs.length * 1))[k]? = (ints xs)[k]? := by rw [ht]
    rw [List.getElem?_take, if_pos (by omega)] at h2
    simpa [ints, hk, List.getD_eq_getElem?_getD] using h2
theorem ownI_at {base : Nat} {w : World} {g n c : Nat} {xs : List Int} (h : OwnI base w (.slice (some ⟨g, 0, none⟩) n c) xs) {k : Nat} (hk : k < xs.length) : w.cell? ⟨g, k, none⟩ = some (.int .i64 (xs.getD k 0)) ∧ w.frozen? ⟨g, k, none⟩ = false := by
  obtain ⟨g', c', e, -, -, h1, h2⟩ := ownI_cell h (by omega)
  have e1 : g = g' := by have := congrArg Value.ownBlock e; simpa [Value.ownBlock] using this
  subst e1
  exact ⟨h1 k hk, h2 k⟩
/-- rows, parents and queue in memory, all of the call's own from base on -/
structure CoreM (base : Nat) (w : World) (s : St) (P : List Int) (vr vp vq : Value) (bl cs : Nat → Nat) : Prop where
  out : w.ownsRow base 24 1 vr s.t.length ((List.range s.t.length).map fun i => .slice (some ⟨bl i, 0, none⟩) (s.t.row i).length (cs i))
  row : ∀ i, i < s.t.length → base ≤ bl i ∧ XsAt w (bl i) (s.t.row i) ∧ (s.t.row i).length ≤ cs i ∧ cs i ≤ 9223372036854775807
  inj : ∀ i j, i < s.t.length → j < s.t.length → bl i = bl j → i = j
  par : OwnI base w vp P
  que : OwnI base w vq (nats s.q)
  sepP : ∀ i, i < s.t.length → vp.ownBlock ≠ some (bl i)
  sepQ : ∀ i, i < s.t.length → vq.ownBlock ≠ some (bl i)
  pq : ∀ r, vp.ownBlock = some r → vq.ownBlock ≠ some r
  root : Roots P s
section
variable {base : Nat} {w w' : World} {s : St} {P : List Int} {vr vp vq : Value} {bl cs : Nat → Nat}
/-- nothing of it lies in the blocks that turn -/
theorem CoreM.keep (h : CoreM base w s P vr vp vq bl cs) (hk : ∀ k C e, base ≤ k → w.heap[k]? = some (.cells C e (0, 0)) → (e = 3 ∨ e = 24) → w'.heap[k]? = w.heap[k]?) : CoreM base w' s P vr vp vq bl cs := by
  refine ⟨owns_keep h.out fun r hr => ?_, fun i hi => ?_, h.inj, owns_keep h.par fun r hr => ?_, owns_keep h.que fun r hr => ?_, h.sepP, h.sepQ, h.pq, h.root⟩
  · obtain ⟨a, C, hC⟩ := owns_block h.out r hr
    exact hk r C 24 a hC (.inr rfl)
  · obtain ⟨a, b, c⟩ := h.row i hi
    obtain ⟨C, hC, -⟩ := id b
    exact ⟨a, b.keep (hk _ C 3 a hC (.inl rfl)), c⟩
  · obtain ⟨a, C, hC⟩ := owns_block h.par r hr
    exact hk r C 3 a hC (.inl rfl)
  · obtain ⟨a, C, hC⟩ := owns_block h.que r hr
    exact hk r C 3 a hC (.inl rfl)
theorem CoreM.below (h : CoreM base w s P vr vp vq bl cs) (hb : Below w.heap.size w w') : CoreM base w' s P vr vp vq bl cs :=
  h.keep fun k _C _e _ hC _ => hb.block k (Array.getElem?_eq_some_iff.1 hC).1
/-- another block is written -/
theorem CoreM.other (h : CoreM base w s P vr vp vq bl cs) {b : Nat} {C0 : Array Value} {T : TypeId} (hb : w.heap[b]? = some (.cells C0 T (0, 0))) (h3 : T ≠ 3) (h24 : T ≠ 24) (k : Nat) (v : Value) : CoreM base (w.setCell ⟨b, k, none⟩ v) s P vr vp vq bl cs :=
  h.keep fun j C e _ hC he => Below.heap_setCell w ⟨b, k, none⟩ v j fun e' => by
    have e'' : j = b := e'
    rw [e'', hb] at hC
    cases hC
    rcases he with he | he <;> simp_all
theorem CoreM.len (h : CoreM base w s P vr vp vq bl cs) : P.length = s.t.length := h.root.len
/-- reading an element of a row -/
theorem CoreM.at_ (h : CoreM base w s P vr vp vq bl cs) {r c : Nat} (hr : r < s.t.length) (hc : c < (s.t.row r).length) : ∃ g cap, vr = .slice (some ⟨g, 0, none⟩) s.t.length cap ∧ w.cell? ⟨g, r, none⟩ = some (.slice (some ⟨bl r, 0, none⟩) (s.t.row r).length (cs r)) ∧ w.cell? ⟨bl r, c, none⟩ = some (.int .i64 (s.t.at r c)) ∧ w.frozen? ⟨bl r, c, none⟩ = false := by
  obtain ⟨-, hX, -⟩ := h.row r hr
  obtain ⟨hl, ho⟩ := h.out
  rcases ho with ⟨-, h0⟩ | ⟨g, cap, cur, rfl, hb, hC, h1, hm, hs, ht⟩
  · omega
  · refine ⟨g, cap, rfl, ?_, hX.cell hc, hX.frozen c⟩
    rw [cell_of_row _ _ _ _ _ _ hC]
    have h2 : (cur.toList.take (s.t.length * 1))[r]? = ((List.range s.t.length).map fun i => Value.slice (some ⟨bl i, 0, none⟩) (s.t.row i).length (cs i))[r]? := by rw [ht]
    rw [List.getElem?_take, if_pos (by omega)] at h2
    simpa [hr] using h2
/-- writing an element of a row -/
theorem CoreM.set (h : CoreM base w s P vr vp vq bl cs) {r c : Nat} (hr : r < s.t.length) (hc : c < (s.t.row r).length) (z : Int) : CoreM base (w.setCell ⟨bl r, c, none⟩ (.int .i64 z)) { s with t := set2 s.t r c z } P vr vp vq bl cs := by
  have hne : ∀ k, k ≠ bl r → (w.setCell ⟨bl r, c, none⟩ (.int .i64 z)).heap[k]? = w.heap[k]? := fun k hk => Below.heap_setCell w ⟨bl r, c, none⟩ _ k hk
  obtain ⟨-, hXr, -⟩ := h.row r hr
  obtain ⟨Cr, hCr, -⟩ := id hXr
  refine ⟨?_, fun i hi => ?_, fun i j hi hj => h.inj i j (by simpa [length_set2] using hi) (by simpa [length_set2] using hj), owns_keep h.par fun k hk => hne k (fun e => h.sepP r hr (by rw [hk, e])), owns_keep h.que fun k hk => hne k (fun e => h.sepQ r hr (by rw [hk, e])), fun i hi => h.sepP i (by simpa [length_set2] using hi), fun i hi => h.sepQ i (by simpa [length_set2] using hi), h.pq, h.root.of_rep (length_set2 _ _ _ _) rfl⟩
  · simp only [length_set2, rowlen_set2]
    refine owns_keep h.out fun k hk => hne k fun e => ?_
    obtain ⟨-, C, hC⟩ := owns_block h.out k hk
    rw [e, hCr] at hC
    cases hC
  · simp only [length_set2] at hi
    obtain ⟨a, b, d⟩ := h.row i hi
    simp only [rowlen_set2]
    refine ⟨a, ?_, d⟩
    rw [row_set2]
    by_cases e : r = i
    · subst e
      rw [if_pos ⟨rfl, hr⟩]
      exact hXr.set hc z
    · rw [if_neg (fun h' => e h'.1)]
      exact b.keep (hne _ fun e' => e (h.inj r i hr hi e'.symm))
/-- writing a parent -/
theorem CoreM.setP (h : CoreM base w s P vr vp vq bl cs) {g x : Nat} (hg : vp.ownBlock = some g) (hx : x < P.length) (z : Int) {s' : St} (ht : s'.t = s.t) (hq : s'.q = s.q) (hroot : Roots (P.set x z) s') : CoreM base (w.setCell ⟨g, x, none⟩ (.int .i64 z)) s' (P.set x z) vr vp vq bl cs := by
  have hne : ∀ k, k ≠ g → (w.setCell ⟨g, x, none⟩ (.int .i64 z)).heap[k]? = w.heap[k]? := fun k hk => Below.heap_setCell w ⟨g, x, none⟩ _ k hk
  obtain ⟨-, Cg, hCg⟩ := owns_block h.par g hg
  refine ⟨?_, fun i hi => ?_, by rw [ht]; exact h.inj, ownI_set h.par hg hx z, by rw [hq]; exact owns_keep h.que fun k hk => hne k (fun e => h.pq g hg (by rw [hk, e])), by rw [ht]; exact h.sepP, by rw [ht]; exact h.sepQ, h.pq, hroot⟩
  · rw [ht]
    refine owns_keep h.out fun k hk => hne k fun e => ?_
    obtain ⟨-, C, hC⟩ := owns_block h.out k hk
    rw [e, hCg] at hC
    cases hC
  · rw [ht] at hi ⊢
    obtain ⟨a, b, d⟩ := h.row i hi
    exact ⟨a, b.keep (hne _ fun e => h.sepP i hi (by rw [hg, e])), d⟩
/-- a coset joins the queue -/
theorem CoreM.pushQ (h : CoreM base w s P vr vp vq bl cs) (hbw : base ≤ w.heap.size) (x : Nat) (hl : s.q.length ≤ 1000000) : ∃ A' c' w', (Builtin.append_ #[24, 24] 24 #[vq, .slice (some ⟨w.heap.size, 0, none⟩) 1 1]).run Try.prog (w.alloc (.cells #[.int .i64 (x : Int)] 3)) = .ok (.slice A' (s.q.length + 1) c') w' ∧
    CoreM base w' { s with q := s.q ++ [x] } P vr vp (.slice A' (s.q.length + 1) c') bl cs ∧ w.grownBy w' vq.ownBlock := by
  have hq := h.que
  obtain ⟨A', c', w', hr, ho, hg, hw⟩ := push_int 24 24 Try.underlying24 w base vq (nats s.q) hq (x : Int) (by rw [length_nats]; omega) hbw
  rw [length_nats] at hr ho hw
  have hne : ∀ k C e, w.heap[k]? = some (.cells C e (0, 0)) → vq.ownBlock ≠ some k → w'.heap[k]? = w.heap[k]? := fun k C e hC hn => hg.block k (Array.getElem?_eq_some_iff.1 hC).1 (Ne.symm hn)
  have hnewb : ∀ r, (Value.slice A' (s.q.length + 1) c').ownBlock = some r → vq.ownBlock = some r ∨ w.heap.size ≤ r := fun r hr => by
    rcases hw with hw | ⟨r', hr', hge⟩
    · exact .inl (by rw [← hw]; exact hr)
    · rw [hr] at hr'
      cases hr'
      exact .inr hge
  refine ⟨A', c', w', hr, ⟨owns_keep h.out fun k hk => ?_, fun i hi => ?_, h.inj, owns_keep h.par fun k hk => ?_, ?_, h.sepP, fun i hi e => ?_, fun r hr e => ?_, h.root.of_rep rfl rfl⟩, hg⟩
  · obtain ⟨-, C, hC⟩ := owns_block h.out k hk
    refine hne k C 24 hC fun e => ?_
    obtain ⟨-, C', hC'⟩ := owns_block hq k e
    rw [hC] at hC'
    cases hC'
  · obtain ⟨a, b, d⟩ := h.row i hi
    obtain ⟨C, hC, -⟩ := id b
    exact ⟨a, b.keep (hne _ C 3 hC (h.sepQ i hi)), d⟩
  · obtain ⟨-, C, hC⟩ := owns_block h.par k hk
    exact hne k C 3 hC (h.pq k hk)
  · show OwnI base w' _ (nats (s.q ++ [x]))
    rw [nats_app]
    exact ho
  · obtain ⟨-, b, -⟩ := h.row i hi
    rcases hnewb _ e with e | e
    · exact h.sepQ i hi e
    · exact absurd b.lt (by omega)
  · rcases hnewb _ e with e | e
    · exact h.pq r hr e
    · exact absurd (owns_lt h.par hr) (by omega)
end
end Go.Proofs
namespace Go.Proofs
open Go.RowKit Go.Shelf Go.Proofs.Ct
set_option maxRecDepth 100000 in
set_option maxHeartbeats 400000 in
theorem same18_any (w : World) (va vb : Value) (A B : List (List Int)) (ha : Tab w va A) (hb : Tab w vb B) :
    Calls Try.prog 34 #[va, vb] w fun e w' => e = .returned (.bool (decide (A = B))) ∧ ∃ q, w' = w.drewN q := by
  obtain ⟨A0, ca, rfl, ha1, ha2, ha3⟩ := ha.open_
  obtain ⟨B0, cb, rfl, hb1, hb2, hb3⟩ := hb.open_
  have HA := Lib.hid ha3
  have HB := Lib.hid hb3
  clear ha hb ha3 hb3
  by_cases hl : A.length = B.length
  · have d1 : ((A.length : Int) != (B.length : Int)) = false := by simp; omega
    have d2 : (A.length != B.length) = false := by simp; omega
    have HL := Lib.hid hl
    clear hl
    go_enter Try.func34, Try.ntmps34
    go_wp2_with fail
    go_loopw [5] (fun i wr => ∃ k : Nat, k ≤ A.length ∧ i = .int .i64 k ∧ (∀ j, j < k → A.getD j [] = B.getD j []) ∧ ∃ q, wr = w.drewN q) (fun i _ => A.length - (intOf i).toNat)
    case atStart => exact ⟨0, Nat.zero_le _, rfl, fun j hj => absurd hj (by omega), 0, rfl⟩
    case round =>
      obtain ⟨k, hk, rfl, hz, q, rfl⟩ := hrel
      have HZ := Lib.hid hz
      clear hz
      by_cases hlt : k < A.length
      · obtain ⟨b1, o1, rfl, hc1⟩ := HA.out (by omega)
        obtain ⟨b2, o2, rfl, hc2⟩ := HB.out (by rw [← HL.out]; omega)
        obtain ⟨u1, hu1, hr1⟩ := hc1 k hlt
        obtain ⟨u2, hu2, hr2⟩ := hc2 k (by rw [← HL.out]; omega)
        obtain ⟨A3, c3, rfl, hd1, hd2, hd⟩ := hr1.open_
        obtain ⟨A4, c4, rfl, he1, he2, he⟩ := hr2.open_
        have hk0 : (0 : Int) ≤ (k : Int) := Int.natCast_nonneg _
        have hkb : (k : Int) < (B.length : Int) := by rw [← HL.out]; omega
        have hka : (k : Int) < (A.length : Int) := by omega
        have HN := Lib.hid (fun h => getD_ne (A := A) (B := B) (d := []) (k := k) h)
        generalize hxe : A.getD k [] = x at *
        generalize hye : B.getD k [] = y at *
        have HXE := Lib.hid hxe
        have HYE := Lib.hid hye
        clear hxe hye
        have HD := Lib.hid hd
        have HE := Lib.hid he
        clear hc1 hc2 hr1 hr2 hd he
        by_cases hxy : x.length = y.length
        · have d3 : ((x.length : Int) != (y.length : Int)) = false := by simp; omega
          have d4 : (x.length != y.length) = false := by simp; omega
          have HX := Lib.hid hxy
          clear hxy
          go_wp2_with fail
          go_quiet (fail)
          go_wp2_with fail
          go_loopw [6] (fun i wr => ∃ j : Nat, j ≤ x.length ∧ i = .int .i64 j ∧ (∀ t, t < j → x.getD t 0 = y.getD t 0) ∧ ∃ q, wr = w.drewN q) (fun i _ => x.length - (intOf i).toNat)
          case atStart => exact ⟨0, Nat.zero_le _, rfl, fun j hj => absurd hj (by omega), (by first | exact ⟨_, rfl⟩ | exact ex_drewN)⟩
          case round =>
            obtain ⟨j, hj, rfl, hzj, qj, rfl⟩ := hrel
            have HZJ := Lib.hid hzj
            clear hzj
            by_cases hjl : j < x.length
            · obtain ⟨b3, o3, rfl, hx⟩ := HD.out (by omega)
              obtain ⟨b4, o4, rfl, hy⟩ := HE.out (by rw [← HX.out]; omega)
              have hx1 := hx j hjl
              have hy1 := hy j (by rw [← HX.out]; omega)
              have hj0 : (0 : Int) ≤ (j : Int) := Int.natCast_nonneg _
              have hjb : (j : Int) < (y.length : Int) := by rw [← HX.out]; omega
              have hja : (j : Int) < (x.length : Int) := by omega
              have HM := Lib.hid (fun h => getD_ne (A := x) (B := y) (d := 0) (k := j) h)
              clear hx hy
              generalize hse : x.getD j 0 = s at *
              generalize hte : y.getD j 0 = t at *
              have HSE := Lib.hid hse
              have HTE := Lib.hid hte
              clear hse hte
              by_cases hst : s = t
              · have d5 : (s != t) = false := by simpa using hst
                have HS := Lib.hid hst
                clear hst
                go_wp2_with fail
                go_quiet (fail)
                go_wp2_with fail
                go_roundw
                case rel => exact ⟨j + 1, by omega, by go_num, all_succ HZJ.out (by rw [HSE.out, HTE.out]; exact HS.out), (by first | exact ⟨_, rfl⟩ | exact ex_drewN)⟩
                case measure => simp [intOf]; omega
              · have d5 : (s != t) = true := by simpa using hst
                have HS := Lib.hid hst
                clear hst
                go_wp2_with fail
                go_quiet (fail)
                go_wp2_with fail
                go_ret
                exact ⟨ret_bool (by simpa using HN.out (HM.out HS.out)), (by first | exact ⟨_, rfl⟩ | exact ex_drewN)⟩
            · obtain rfl : j = x.length := by omega
              go_wp2_with fail
              go_roundw
              case rel => exact ⟨k + 1, by omega, by go_num, all_succ HZ.out (by rw [HXE.out, HYE.out]; exact getD_ext HX.out HZJ.out), _, rfl⟩
              case measure => simp [intOf]; omega
        · have d3 : ((x.length : Int) != (y.length : Int)) = true := by simp; omega
          have d4 : (x.length != y.length) = true := by simp; omega
          have HX := Lib.hid hxy
          clear hxy
          go_wp2_with fail
          go_quiet (fail)
          go_wp2_with fail
          go_ret
          exact ⟨ret_bool (by simpa using HN.out (fun e => HX.out (by rw [e]))), (by first | exact ⟨_, rfl⟩ | exact ex_drewN)⟩
      · obtain rfl : k = A.length := by omega
        go_wp2_with fail
        go_ret
        exact ⟨ret_bool (by simpa using getD_ext HL.out HZ.out), _, rfl⟩
  · have d1 : ((A.length : Int) != (B.length : Int)) = true := by simp; omega
    have d2 : (A.length != B.length) = true := by simp; omega
    have HL := Lib.hid hl
    clear hl
    go_enter Try.func34, Try.ntmps34
    go_wp2_with fail
    go_ret
    exact ⟨ret_bool (by simpa using fun e => HL.out (by rw [e])), 0, rfl⟩
set_option maxRecDepth 100000 in
set_option maxHeartbeats 400000 in
theorem equal142_any (w : World) (va vb : Value) (x y : List Int) (ha : IntsAt w va x) (hb : IntsAt w vb y) :
    Calls Try.prog 142 #[va, vb] w fun e w' => e = .returned (.bool (decide (x = y))) ∧ ∃ q, w' = w.drewN q := by
  obtain ⟨A3, c3, rfl, hd1, hd2, hd⟩ := ha.open_
  obtain ⟨A4, c4, rfl, he1, he2, he⟩ := hb.open_
  have HD := Lib.hid hd
  have HE := Lib.hid he
  clear ha hb hd he
  have HN := Lib.hid (fun (h : x.length ≠ y.length) (e : x = y) => h (by rw [e]))
  by_cases hxy : x.length = y.length
  · have d3 : ((x.length : Int) != (y.length : Int)) = false := by simp; omega
    have d4 : (x.length != y.length) = false := by simp; omega
    have HX := Lib.hid hxy
    clear hxy
    go_enter Try.func142, Try.ntmps142
    go_wp2_with fail
    go_loopw [5, 13] (fun _ i wr => ∃ j : Nat, j ≤ x.length ∧ i = .int .i64 j ∧ (∀ t, t < j → x.getD t 0 = y.getD t 0) ∧ ∃ q, wr = w.drewN q) (fun _ i _ => x.length - (intOf i).toNat)
    case atStart => exact ⟨0, Nat.zero_le _, rfl, fun j hj => absurd hj (by omega), 0, rfl⟩
    case round =>
      obtain ⟨j, hj, rfl, hzj, qj, rfl⟩ := hrel
      have HZJ := Lib.hid hzj
      clear hzj
      by_cases hjl : j < x.length
      · obtain ⟨b3, o3, rfl, hx⟩ := HD.out (by omega)
        obtain ⟨b4, o4, rfl, hy⟩ := HE.out (by rw [← HX.out]; omega)
        have hx1 := hx j hjl
        have hy1 := hy j (by rw [← HX.out]; omega)
        have hj0 : (0 : Int) ≤ (j : Int) := Int.natCast_nonneg _
        have hjb : (j : Int) < (y.length : Int) := by rw [← HX.out]; omega
        have hja : (j : Int) < (x.length : Int) := by omega
        have HM := Lib.hid (fun h => getD_ne (A := x) (B := y) (d := 0) (k := j) h)
        clear hx hy
        generalize hse : x.getD j 0 = s at *
        generalize hte : y.getD j 0 = t at *
        have HSE := Lib.hid hse
        have HTE := Lib.hid hte
        clear hse hte
        by_cases hst : s = t
        · have d5 : (s != t) = false := by simpa using hst
          have HS := Lib.hid hst
          clear hst
          go_wp2_with fail
          go_quiet (fail)
          go_wp2_with fail
          go_roundw
          case rel => exact ⟨j + 1, by omega, by go_num, all_succ HZJ.out (by rw [HSE.out, HTE.out]; exact HS.out), (by first | exact ⟨_, rfl⟩ | exact ex_drewN)⟩
          case measure => simp [intOf]; omega
        · have d5 : (s != t) = true := by simpa using hst
          have HS := Lib.hid hst
          clear hst
          go_wp2_with fail
          go_quiet (fail)
          go_wp2_with fail
          go_ret
          exact ⟨ret_bool (by simpa using HM.out HS.out), (by first | exact ⟨_, rfl⟩ | exact ex_drewN)⟩
      · obtain rfl : j = x.length := by omega
        go_wp2_with fail
        go_ret
        exact ⟨ret_bool (by simpa using getD_ext HX.out HZJ.out), (by first | exact ⟨_, rfl⟩ | exact ex_drewN)⟩
  · have d3 : ((x.length : Int) != (y.length : Int)) = true := by simp; omega
    have d4 : (x.length != y.length) = true := by simp; omega
    have HX := Lib.hid hxy
    clear hxy
    go_enter Try.func142, Try.ntmps142
    go_wp2_with fail
    go_ret
    exact ⟨ret_bool (by simpa using HN.out HX.out), 0, rfl⟩
theorem eg142 : ∀ args w, (callFunc 142 args).run Try.prog w = .ok (.enter 142 args) w := enters_of Try.func142 (by kernel_rfl) rfl
set_option maxRecDepth 100000 in
set_option maxHeartbeats 400000 in
theorem equalF141_any (w : World) (va vb : Value) (A B : List (List Int)) (ha : Tab w va A) (hb : Tab w vb B) :
    Calls Try.prog 141 #[va, vb, .func (.func 142) #[] #[]] w fun e w' => e = .returned (.bool (decide (A = B))) ∧ ∃ q, w' = w.drewN q := by
  have HEG := eg142
  obtain ⟨A0, ca, rfl, ha1, ha2, ha3⟩ := ha.open_
  obtain ⟨B0, cb, rfl, hb1, hb2, hb3⟩ := hb.open_
  have HA := Lib.hid ha3
  have HB := Lib.hid hb3
  clear ha hb ha3 hb3
  by_cases hl : A.length = B.length
  · have d1 : ((A.length : Int) != (B.length : Int)) = false := by simp; omega
    have d2 : (A.length != B.length) = false := by simp; omega
    have HL := Lib.hid hl
    clear hl
    go_enter Try.func141, Try.ntmps141
    go_wp2_with fail
    go_loopw [17] (fun i wr => ∃ k : Nat, k ≤ A.length ∧ i = .int .i64 k ∧ (∀ j, j < k → A.getD j [] = B.getD j []) ∧ ∃ q, wr = w.drewN q) (fun i _ => A.length - (intOf i).toNat)
    case atStart => exact ⟨0, Nat.zero_le _, rfl, fun j hj => absurd hj (by omega), 0, rfl⟩
    case round =>
      obtain ⟨k, hk, rfl, hz, q, rfl⟩ := hrel
      have HZ := Lib.hid hz
      clear hz
      by_cases hlt : k < A.length
      · obtain ⟨b1, o1, rfl, hc1⟩ := HA.out (by omega)
        obtain ⟨b2, o2, rfl, hc2⟩ := HB.out (by rw [← HL.out]; omega)
        obtain ⟨u1, hu1, hr1⟩ := hc1 k hlt
        obtain ⟨u2, hu2, hr2⟩ := hc2 k (by rw [← HL.out]; omega)
        have hk0 : (0 : Int) ≤ (k : Int) := Int.natCast_nonneg _
        have hkb : (k : Int) < (B.length : Int) := by rw [← HL.out]; omega
        have hka : (k : Int) < (A.length : Int) := by omega
        have HN := Lib.hid (fun h => getD_ne (A := A) (B := B) (d := []) (k := k) h)
        have hcall : Calls Try.prog 142 #[u1, u2] (w.drewN q) fun e w' => e = .returned (.bool (decide (A.getD k [] = B.getD k []))) ∧ ∃ q', w' = (w.drewN q).drewN q' := equal142_any (w.drewN q) u1 u2 _ _ (hr1.drewN q) (hr2.drewN q)
        have HXY : Hid (A.getD k [] = B.getD k [] → ∀ j, j < k + 1 → A.getD j [] = B.getD j []) := Lib.hid fun h => all_succ HZ.out h
        clear hc1 hc2 hr1 hr2
        by_cases hxy : A.getD k [] = B.getD k []
        · rw [decide_eq_true hxy] at hcall
          have HC := Lib.hid hcall
          have HS := Lib.hid (HXY.out hxy)
          clear hcall hxy
          go_wp2_with (go_at_fn 142; (refine HC.out.mono ?_); rintro e w' ⟨rfl, q', rfl⟩)
          go_roundw
          case rel => exact ⟨k + 1, by omega, by go_num, HS.out, (by first | exact ⟨_, rfl⟩ | exact ex_drewN)⟩
          case measure => simp [intOf]; omega
        · rw [decide_eq_false hxy] at hcall
          have HC := Lib.hid hcall
          have HS := Lib.hid (HN.out hxy)
          clear hcall hxy
          go_wp2_with (go_at_fn 142; (refine HC.out.mono ?_); rintro e w' ⟨rfl, q', rfl⟩)
          go_ret
          exact ⟨ret_bool (by simpa using HS.out), (by first | exact ⟨_, rfl⟩ | exact ex_drewN)⟩
      · obtain rfl : k = A.length := by omega
        go_wp2_with fail
        go_ret
        exact ⟨ret_bool (by simpa using getD_ext HL.out HZ.out), _, rfl⟩
  · have d1 : ((A.length : Int) != (B.length : Int)) = true := by simp; omega
    have d2 : (A.length != B.length) = true := by simp; omega
    have HL := Lib.hid hl
    clear hl
    go_enter Try.func141, Try.ntmps141
    go_wp2_with fail
    go_ret
    exact ⟨ret_bool (by simpa using fun e => HL.out (by rw [e])), 0, rfl⟩
theorem same109_any (w : World) (va vb : Value) (A B : List (List Int)) (ha : Tab w va A) (hb : Tab w vb B) :
    Calls Try.prog 109 #[va, vb] w fun e w' => e = .returned (.bool (decide (A = B))) ∧ ∃ q, w' = w.drewN q := by
  have HC := Lib.hid (equalF141_any w va vb A B ha hb)
  clear ha hb
  generalize decide (A = B) = r at *
  go_enter Try.func109, Try.ntmps109
  go_wp2_with (go_at_call 141; (refine HC.out.mono ?_); rintro e w' ⟨rfl, q, rfl⟩)
  go_ret
  exact ⟨rfl, _, rfl⟩
def ltrI (c : Int) : Int := if c % 2 = 1 then -(c / 2 + 1) else c / 2 + 1
theorem letter_ltrI (c : Nat) : letter c = ltrI c := by
  unfold letter ltrI
  by_cases h : c % 2 = 1
  · rw [if_pos h, if_pos (by omega)]; omega
  · rw [if_neg h, if_neg (by omega)]; omega
set_option maxRecDepth 100000 in
theorem letter110_int (w : World) (c : Int) (h0 : 0 ≤ c) (h1 : c ≤ 1000000) : Calls Try.prog 110 #[.int .i64 c] w fun e w' => e = .returned (.int .i64 (ltrI c)) ∧ w = w' := by
  by_cases h : c % 2 = 1
  · have d1 : (c % 2 == 1) = true := beq_iff_eq.2 h
    have HL : Hid (ltrI c = -(c / 2 + 1)) := Lib.hid (if_pos h)
    clear h
    go_enter Try.func110, Try.ntmps110
    go_wp2_with fail
    go_ret
    exact ⟨by rw [HL.out]; rfl, rfl⟩
  · have d1 : (c % 2 == 1) = false := beq_eq_false_iff_ne.2 h
    have HL : Hid (ltrI c = c / 2 + 1) := Lib.hid (if_neg h)
    clear h
    go_enter Try.func110, Try.ntmps110
    go_wp2_with fail
    go_ret
    exact ⟨by rw [HL.out]; rfl, rfl⟩
theorem letter110_any (w : World) (c : Nat) (hc : c ≤ 1000000) : Calls Try.prog 110 #[.int .i64 (c : Int)] w fun e w' => e = .returned (.int .i64 (letter c)) ∧ w = w' := by
  rw [letter_ltrI]
  exact letter110_int w c (by omega) (by omega)
theorem src_ints {t : TypeId} (ht : Try.prog.underlying t = some (.slice 3)) {w : World} {v : Value} {y : List Int} (h : IntsAt w v y) : Src Try.prog 1 t v y.length (ints y) w := by
  obtain ⟨⟨A, n, cap, rfl, hn, hc, hm, hr⟩, -⟩ := h
  have hl : n = y.length := by simpa [ints] using hn
  subst hl
  rcases Nat.eq_zero_or_pos y.length with h0 | h0
  · obtain rfl : y = [] := List.length_eq_zero_iff.1 h0
    cases A with
    | none => exact Src.ofNil w ht cap
    | some a => exact Src.ofSlice w ht a 0 cap [] rfl (fun j u hu => by simp at hu) (fun u hu => by cases hu)
  · obtain ⟨b, off, rfl, hrow⟩ := hr h0
    exact Src.ofSlice w ht _ _ cap (ints y) (by simp [ints]) (fun j u hu => by rw [Addr.add_lit]; exact hrow j u hu) (fun u hu => by obtain ⟨x, -, rfl⟩ := List.mem_map.1 hu; rfl)
/-- append([]int{}, y...): the copy lies in a block of its own -/
theorem run_copy {t : TypeId} (ht : Try.prog.underlying t = some (.slice 3)) {w : World} {v : Value} {y : List Int} (h : IntsAt w v y) (hl : y.length ≤ 1000000) :
    ∃ A cap w', (Builtin.append_ #[t, t] t #[.slice (some ⟨w.heap.size, 0, none⟩) 0 0, v]).run Try.prog (w.alloc (.cells #[] 3)) = .ok (.slice A y.length cap) w' ∧
      Below w.heap.size w w' ∧ OwnI w.heap.size w' (.slice A y.length cap) y := by
  obtain ⟨i, hi, hz, hs, hby⟩ := info3p
  have hal : Below w.heap.size w (w.alloc (.cells #[] 3)) := (Below.refl _ _).alloc (Nat.le_refl _) _
  have hnew := heap_alloc_new w (.cells #[] 3)
  have hsz : (w.alloc (.cells #[] 3)).heap.size = w.heap.size + 1 := by simp
  have hsrc := src_ints ht (h.below hal)
  generalize w.alloc (.cells #[] 3) = W at *
  rcases Nat.eq_zero_or_pos y.length with h0 | h0
  · obtain rfl : y = [] := List.length_eq_zero_iff.1 h0
    have := run_append_room_src (P := Try.prog) W t t t 3 i ht hi w.heap.size 0 0 0 v 0 [] (by rw [hs]; exact hsrc) (Nat.le_refl _) (fun j hj => absurd hj (by simp)) (fun j hj => absurd hj (by simp))
    exact ⟨_, 0, W, this, hal, rfl, .inr ⟨w.heap.size, 0, #[], rfl, Nat.le_refl _, hnew, Nat.le_refl _, by simp, rfl, rfl⟩⟩
  · have hold : (Builtin.firstCells i.size 0 (.slice (some ⟨w.heap.size, 0, none⟩) 0 0)).run Try.prog W.drew = .ok ([] : List Value).toArray W.drew := by
      rw [hs]
      exact run_firstCells_some W.drew 1 0 ⟨w.heap.size, 0, none⟩ 0 0 [] rfl (fun j u hu => by simp at hu)
    have hg := run_append_grow_src (P := Try.prog) W t t t 3 i (.int .i64 0) ht hi hz (some ⟨w.heap.size, 0, none⟩) 0 0 [] hold v y.length (ints y) (by rw [hs]; exact hsrc) (by omega) (by omega) (growslice_fits (by omega) (by rw [hby]; omega))
    simp only [Nat.zero_add, List.nil_append] at hg
    have hcm := grownCap_le_maxLen W y.length 0 3 (by unfold maxLen; omega)
    have hcg := grownCap_ge W y.length 0 3
    refine ⟨_, _, _, hg, hal.trans ⟨rfl, rfl, rfl, by simp, fun k hk => (Below.heap_alloc W.drew _ k (by show k < W.heap.size; omega))⟩, by simp [ints], .inr ⟨W.heap.size, _, _, rfl, by omega, heap_alloc_new W.drew _, hcg, hcm, ?_, ?_⟩⟩
    · simp [ints, size_zeroCells, Value.cells]
      omega
    · simp [ints]
theorem eqnil_none (w : World) (n c : Nat) : (binOp .eql 25 (.slice none n c) (.slice none 0 0)).run Try.prog w = .ok (.bool true) w := by kernel_rfl
theorem eqnil_some (w : World) (a : Addr) (n c : Nat) : (binOp .eql 25 (.slice (some a) n c) (.slice none 0 0)).run Try.prog w = .ok (.bool false) w := by kernel_rfl
set_option maxRecDepth 100000 in
theorem clone71_any (w : World) (v : Value) (xs : List Int) (h : IntsAt w v xs) (hl : xs.length ≤ 1000000) :
    Calls Try.prog 71 #[v] w fun e w' => ∃ A c, e = .returned (.slice A xs.length c) ∧ OwnI w.heap.size w' (.slice A xs.length c) xs ∧ Below w.heap.size w w' := by
  obtain ⟨A0, c0, w', hr, hb, ho⟩ := run_copy Try.underlying25 h hl
  have HR := Lib.hid hr
  have HB := Lib.hid hb
  have HO := Lib.hid ho
  obtain ⟨A, cap, rfl, hcap, hmax, hc⟩ := h.open_
  cases A with
  | none =>
    have h0 : xs = [] := by
      rcases Nat.eq_zero_or_pos xs.length with h0 | h0
      · exact List.length_eq_zero_iff.1 h0
      · obtain ⟨b, off, hx, -⟩ := hc h0
        cases hx
    clear hr hb ho hc h HR HB HO
    subst h0
    have hq := eqnil_none w
    go_enter Try.func71, Try.ntmps71
    go_wp2_with fail
    go_ret
    exact ⟨none, 0, rfl, World.ownsRow_nil _ _ _ _, Below.refl _ _⟩
  | some a =>
    clear hr hb ho hc h
    have hq := eqnil_some w
    go_enter Try.func71, Try.ntmps71
    go_wp2_with ((with_reducible refine wpList_sel 7 ?_); refine wpList_val rfl (r_app (.tmp 5) (.tmp 6) 25 rfl rfl rfl HR.out) ?_)
    go_ret
    exact ⟨_, _, rfl, HO.out, HB.out⟩
end Go.Proofs
namespace Go.Proofs
open Go.RowKit Go.Shelf Go.Proofs.Ct
def Mild (x : Int) : Prop := -4611686018427387903 ≤ x ∧ x ≤ 4611686018427387903
theorem Mild.at_ {w : List Int} (h : ∀ x ∈ w, Mild x) (k : Nat) : Mild (w.getD k 0) := by
  rw [List.getD_eq_getElem?_getD]
  rcases Nat.lt_or_ge k w.length with hk | hk
  · rw [List.getElem?_eq_getElem hk]; exact h _ (List.getElem_mem hk)
  · rw [List.getElem?_eq_none hk]; exact ⟨by simp, by simp⟩
theorem owns_take {w : World} {base : Nat} {A : Option Addr} {n c : Nat} {xs : List Int} (h : w.ownsRow base 3 1 (.slice A n c) n (ints xs)) {k : Nat} (hk : k ≤ n) : w.ownsRow base 3 1 (.slice A k c) k (ints (xs.take k)) := by
  obtain ⟨hl, h2⟩ := h
  have hxl : xs.length = n := by simpa [ints] using hl
  refine ⟨by simp [ints]; omega, ?_⟩
  rcases h2 with ⟨e, h0⟩ | ⟨g, cap, cur, e, hb, hg, hnc, hcm, hcs, ht⟩
  · cases e
    obtain rfl : k = 0 := by omega
    exact .inl ⟨rfl, rfl⟩
  · cases e
    refine .inr ⟨g, c, cur, rfl, hb, hg, by omega, hcm, hcs, ?_⟩
    have : ints (xs.take k) = (ints xs).take k := by simp [ints, List.map_take]
    rw [this, ← ht, List.take_take]
    congr 1
    omega
def RedPost (x : List Int) (w : World) (e : Ending) (w' : World) : Prop := ∃ A c, e = .returned (.slice A (red x).length c) ∧ OwnI w.heap.size w' (.slice A (red x).length c) (red x) ∧ Below w.heap.size w w'
end Go.Proofs
namespace Go.Proofs
open Go.RowKit Go.Shelf Go.Proofs.Ct
theorem RedPost.base {x : List Int} {w w1 : World} {e : Ending} {w' : World} (hb : Below w.heap.size w w1) (h : RedPost x w1 e w') : RedPost x w e w' := by
  obtain ⟨A, c, h1, h2, h3⟩ := h
  exact ⟨A, c, h1, owns_base h2 hb.size, hb.trans (h3.mono hb.size)⟩
def sumTo (xs : List (List Int)) (k : Nat) : Nat := foldTo (fun k l => l + (xs.getD k []).length) k 0
end Go.Proofs
namespace Go.Proofs
open Go.RowKit Go.Shelf Go.Proofs.Ct Go.Maps Go.WideMaps
theorem laidOutT : laidOutB Try.prog = true := by kernel_rfl
theorem row102 : (102 : TypeId) < Try.prog.types.size := of_decide_eq_true (by kernel_rfl)
theorem law102 : Keyed Try.prog 102 := Keyed.of_law (deep_law_laid laidOutT (m := 2) (by omega) row102 (by kernel_rfl) (by
  have h := Try.underlying102
  generalize Try.prog.underlying 102 = u at *
  subst h
  rfl))
theorem cells102 : Try.prog.cellsOf 102 = 2 := by kernel_rfl
theorem formed102 {c0 c1 : Value} : (Value.agg #[c0, c1]).formed Try.prog 102 = true := by simp [Value.formed, Try.underlying102, cells102]
theorem cells3 : Try.prog.cellsOf 3 = 1 := by kernel_rfl
theorem lits3 {a : Int} (ha : I64 a) (d : Nat) : Try.prog.keyLits (d + 1) 3 [.int .i64 a] = some [.int .i64 a] := by
  have wa := WalkArith.wf_i64 ha
  unfold Program.keyLits
  rw [Try.underlying3]
  simp [wa]
theorem lits102 {a b : Int} (ha : I64 a) (hb : I64 b) (d : Nat) : Try.prog.keyLits (d + 2) 102 [.int .i64 a, .int .i64 b] = some [.int .i64 a, .int .i64 b] := by
  have h := Try.underlying102
  unfold Program.keyLits
  generalize Try.prog.underlying 102 = u at *
  subst h
  simp only [cells102, cells3, List.length_cons, List.length_nil, if_true]
  have h1 := lits3 ha d
  have h2 := lits3 hb d
  simp [List.range_succ, h1, h2]
theorem keyType102 : Try.prog.keyType 102 = true := by kernel_rfl
theorem key102 {a b : Int} (ha : I64 a) (hb : I64 b) : ∃ l, keyOf Try.prog 102 (.agg #[.int .i64 a, .int .i64 b]) = some l := by
  obtain ⟨d, hd⟩ : ∃ d, Try.prog.types.size + 1 = d + 2 := ⟨Try.prog.types.size - 1, by have : (102 : Nat) < Try.prog.types.size := row102; omega⟩
  have hl := lits102 ha hb d
  refine ⟨.string (keyBytes [.int .i64 a, .int .i64 b]), ?_⟩
  have h := Try.underlying102
  have hf : (Value.agg #[.int .i64 a, .int .i64 b]).formed Try.prog 102 = true := formed102
  unfold keyOf
  rw [keyType102, hf, hd]
  generalize Try.prog.underlying 102 = u at *
  subst h
  simp [Value.cells, hl]
end Go.Proofs
namespace Go.Proofs
open Go.RowKit Go.Shelf Go.Proofs.Ct Go.Maps
def pkey (r g : Nat) : Value := .agg #[.int .i64 (r : Int), .int .i64 ((g + 1 : Nat) : Int)]
def Sml (r g : Nat) : Prop := r ≤ 1000000 ∧ g ≤ 1000000
theorem pkey_lit {r g : Nat} (h : Sml r g) : ∃ l, keyOf Try.prog 102 (pkey r g) = some l := key102 ⟨by omega, by have := h.1; omega⟩ ⟨by omega, by have := h.2; omega⟩
theorem pkey_inj {r g r' g' : Nat} {l : Lit} (h : keyOf Try.prog 102 (pkey r g) = some l) (h' : keyOf Try.prog 102 (pkey r' g') = some l) : r = r' ∧ g = g' := by
  have := law102.inj h h'
  unfold pkey at this
  injection this with h1
  have h2 : (r : Int) = r' := by have := congrArg (fun a : Array Value => a[0]?) h1; simpa using this
  have h3 : ((g + 1 : Nat) : Int) = ((g' + 1 : Nat) : Int) := by have := congrArg (fun a : Array Value => a[1]?) h1; simpa using this
  omega
/-- block b is a map from the pairs of ps to their places, from 1 on -/
def MapP (w : World) (b : Nat) (ps : List (Nat × Nat)) : Prop :=
  ∃ n D, n ≤ ps.length ∧ w.ownsMap (H := Unit) Try.prog 102 (plainElem Try.prog 3) b n D ∧
    ∀ r g l, Sml r g → keyOf Try.prog 102 (pkey r g) = some l → D.atKey l (.lit (.int .i64 0)) = .lit (.int .i64 (placeP ps r g))
theorem MapP.made (w : World) : MapP (w.alloc (.map #[] 0)) w.heap.size [] :=
  ⟨0, .map [], Nat.le_refl _, World.ownsMap_made _ _ _ _, fun r g l _ _ => by simp [placeP, DataW.atKey]⟩
theorem MapP.kept {w w' : World} {b : Nat} {ps : List (Nat × Nat)} {row : Option Nat} (h : MapP w b ps) (hg : w.grownBy w' row) (hne : row ≠ some b) : MapP w' b ps := by
  obtain ⟨n, D, h1, h2, h3⟩ := h
  exact ⟨n, D, h1, h2.kept hg (Ne.symm hne), h3⟩
theorem MapP.lt {w : World} {b : Nat} {ps : List (Nat × Nat)} (h : MapP w b ps) : b < w.heap.size := by
  obtain ⟨n, D, h1, h2, h3⟩ := h
  exact h2.lt
theorem MapP.below {w w' : World} {b : Nat} {ps : List (Nat × Nat)} (h : MapP w b ps) (hb : Below w.heap.size w w') : MapP w' b ps :=
  h.kept (row := none) ⟨hb.os, hb.tape, hb.output, hb.size, fun k hk _ => hb.block k hk⟩ (by simp)
theorem MapP.isMapObj {w : World} {b : Nat} {ps : List (Nat × Nat)} (h : MapP w b ps) : ∃ es clock, w.heap[b]? = some (.map es clock) := by
  obtain ⟨n, D, h1, ⟨es, clock, hb, -⟩, h3⟩ := h
  exact ⟨es, clock, hb⟩
theorem MapP.look {w : World} {b : Nat} {ps : List (Nat × Nat)} (h : MapP w b ps) {r g : Nat} (hs : Sml r g) : (Instr.lookup 90 (.map (some b)) (pkey r g) false).run Try.prog w = .ok (.int .i64 (placeP ps r g)) w := by
  obtain ⟨n, D, h1, h2, h3⟩ := h
  obtain ⟨l, hl⟩ := pkey_lit hs
  obtain ⟨c, hr, hat, -⟩ := h2.lookup_int law102 Try.underlying90 Try.underlying3 (zero3 w) hl
  rw [h3 r g l hs hl] at hat
  have : placeP ps r g = c := by simpa using hat
  rw [this]
  exact hr
theorem placeP_new {ps : List (Nat × Nat)} {r g : Nat} (hn : (r, g) ∉ ps) : placeP (ps ++ [(r, g)]) r g = (ps.length : Int) + 1 := by
  unfold placeP
  rw [if_pos (by simp), List.idxOf_append, if_neg hn]
  simp
theorem placeP_old {ps : List (Nat × Nat)} {r g r' g' : Nat} (hne : ¬ (r' = r ∧ g' = g)) : placeP (ps ++ [(r, g)]) r' g' = placeP ps r' g' := by
  unfold placeP
  have hne' : (r', g') ≠ (r, g) := fun e => hne ⟨congrArg Prod.fst e, congrArg Prod.snd e⟩
  by_cases hm : (r', g') ∈ ps
  · rw [if_pos hm, if_pos (by simp [hm]), List.idxOf_append, if_pos hm]
  · rw [if_neg hm, if_neg (by simp [hm]; exact fun e h => hne ⟨e, h⟩)]
theorem MapP.put {w : World} {b : Nat} {ps : List (Nat × Nat)} (h : MapP w b ps) {r g : Nat} (hs : Sml r g) (hl : ps.length ≤ 1000000) (hn : (r, g) ∉ ps) :
    ∃ w', (Instr.mapUpdate 90 (.map (some b)) (pkey r g) (.int .i64 ((ps.length : Int) + 1))).run Try.prog w = .ok () w' ∧ MapP w' b (ps ++ [(r, g)]) ∧ w.grownBy w' (some b) := by
  obtain ⟨n, D, h1, h2, h3⟩ := h
  obtain ⟨l, hkl⟩ := pkey_lit hs
  obtain ⟨w', hr, ho, hg⟩ := h2.update (val := .int .i64 ((ps.length : Int) + 1)) law102 Try.underlying90 (by unfold maxLen; omega) hkl (plainElem_int Try.underlying3 (WalkArith.wf_i64 (by omega)))
  refine ⟨w', hr, ⟨n + 1, _, by simp; omega, ho, fun r' g' l' hs' hl' => ?_⟩, hg⟩
  by_cases e : r' = r ∧ g' = g
  · obtain ⟨rfl, rfl⟩ := e
    have : l' = l := by rw [hkl] at hl'; exact (Option.some.inj hl').symm
    subst this
    rw [Maps.atKey_put_same h2.isMap (law102.key hkl), placeP_new hn]
  · have hne : l' ≠ l := fun e' => e (by subst e'; exact pkey_inj hl' hkl)
    rw [Maps.atKey_put_other hne, h3 r' g' l' hs' hl', placeP_old e]
/-- the cells of a list of pairs -/
def pcells (ps : List (Nat × Nat)) : List Value := ps.flatMap fun p => [.int .i64 (p.1 : Int), .int .i64 ((p.2 + 1 : Nat) : Int)]
theorem pcells_snoc (ps : List (Nat × Nat)) (p : Nat × Nat) : pcells (ps ++ [p]) = pcells ps ++ [.int .i64 (p.1 : Int), .int .i64 ((p.2 + 1 : Nat) : Int)] := by simp [pcells]
abbrev OwnP (base : Nat) (w : World) (v : Value) (ps : List (Nat × Nat)) : Prop := w.ownsRow base 102 2 v ps.length (pcells ps)
theorem info102p : ∃ i, Try.prog.info? 102 = some i ∧ i.zero = some (.agg #[.int .i64 0, .int .i64 0]) ∧ i.size = 2 ∧ i.bytes = 16 := by
  have h : (Try.prog.info? 102).map (fun i => (i.zero, i.size, i.bytes)) = some (some (.agg #[.int .i64 0, .int .i64 0]), 2, 16) := by kernel_rfl
  cases hq : Try.prog.info? 102 with
  | none => simp [hq] at h
  | some i => simp [hq] at h; exact ⟨i, rfl, h⟩
theorem owns_form2 {w : World} {base e size n : Nat} {v : Value} {xs : List Value} (h : w.ownsRow base e size v n xs) : ∃ A c, v = .slice A n c := by
  rcases h.2 with ⟨rfl, rfl⟩ | ⟨g, cap, cur, rfl, -⟩
  · exact ⟨none, 0, rfl⟩
  · exact ⟨_, _, rfl⟩
theorem owns_block2 {w : World} {base e size n : Nat} {v : Value} {xs : List Value} (h : w.ownsRow base e size v n xs) : ∀ r, v.ownBlock = some r → base ≤ r ∧ ∃ C, w.heap[r]? = some (.cells C e (0, 0)) := fun r hr => by
  rcases h.2 with ⟨rfl, -⟩ | ⟨g, cap, cur, rfl, hb, hg, -⟩
  · cases hr
  · have : g = r := Option.some.inj hr
    subst this
    exact ⟨hb, cur, hg⟩
theorem push_pair (w : World) (base : Nat) (v : Value) (ps : List (Nat × Nat)) (h : OwnP base w v ps) (p : Nat × Nat) (hx : ps.length ≤ 1000000) (hb : base ≤ w.heap.size) :
    ∃ A' c' w', (Builtin.append_ #[91, 91] 91 #[v, .slice (some ⟨w.heap.size, 0, none⟩) 1 1]).run Try.prog (w.alloc (.cells #[.int .i64 (p.1 : Int), .int .i64 ((p.2 + 1 : Nat) : Int)] 102)) = .ok (.slice A' (ps.length + 1) c') w' ∧ OwnP base w' (.slice A' (ps.length + 1) c') (ps ++ [p]) ∧
      w.grownBy w' v.ownBlock := by
  obtain ⟨i, hi, hz, hs, hby⟩ := info102p
  have hal : Below w.heap.size w (w.alloc (.cells #[.int .i64 (p.1 : Int), .int .i64 ((p.2 + 1 : Nat) : Int)] 102)) := (Below.refl _ _).alloc (Nat.le_refl _) _
  obtain ⟨v', w', hr, hown', hg, -, hw⟩ := run_append_own_at (P := Try.prog) (w.alloc (.cells #[.int .i64 (p.1 : Int), .int .i64 ((p.2 + 1 : Nat) : Int)] 102)) base 91 91 102 i (.agg #[.int .i64 0, .int .i64 0]) 2 16 Try.underlying91 hi hz hs hby rfl (by omega) v ps.length (pcells ps) (owns_below h hal) ⟨w.heap.size, 0, none⟩ 1 1 [.int .i64 (p.1 : Int), .int .i64 ((p.2 + 1 : Nat) : Int)] rfl
    (fun j u hj => by
      rw [Addr.add_lit, cell_of_row _ _ _ _ _ _ (heap_alloc_new w _), Nat.zero_add]
      simpa using hj) (fun u hu => by
      have : u = .int .i64 (p.1 : Int) ∨ u = .int .i64 ((p.2 + 1 : Nat) : Int) := by simpa using hu
      rcases this with rfl | rfl <;> rfl) (by unfold maxLen; omega) (by omega) (by have := hal.size; omega)
  obtain ⟨A', c', rfl⟩ := owns_form2 hown'
  refine ⟨A', c', w', hr, ?_, ?_⟩
  · unfold OwnP
    rw [List.length_append, pcells_snoc]
    exact hown'
  · exact ⟨hg.os, hg.tape, hg.output, Nat.le_trans hal.size hg.size, fun k hk hne => (hg.block k (Nat.lt_of_lt_of_le hk hal.size) hne).trans (hal.block k hk)⟩
end Go.Proofs
namespace Go.Proofs
open Go.RowKit Go.Shelf Go.Proofs.Ct Go.Maps
theorem IntsAt.take {w : World} {A : Option Addr} {n c : Nat} {xs : List Int} (h : IntsAt w (.slice A n c) xs) {k : Nat} (hk : k ≤ n) : IntsAt w (.slice A k c) (xs.take k) := by
  obtain ⟨⟨A', n', c', e, h2, h3, h4, h5⟩, hf⟩ := h
  obtain ⟨rfl, rfl, rfl⟩ := Value.slice.inj e
  have hl : n = xs.length := by simpa [ints] using h2
  refine ⟨⟨A, k, c, rfl, by simp [ints]; omega, by omega, h4, fun hn => ?_⟩, fun x hx => hf x (List.mem_of_mem_take hx)⟩
  obtain ⟨b, off, ha, hr⟩ := h5 (by omega)
  refine ⟨b, off, ha, fun j v hv => hr j v ?_⟩
  have : ints (xs.take k) = (ints xs).take k := by simp [ints, List.map_take]
  rw [this, List.getElem?_take] at hv
  split at hv
  · exact hv
  · cases hv
end Go.Proofs
namespace Go.Proofs
open Go.RowKit Go.Shelf Go.Proofs.Ct
def RepsPost (g : Int) (t : Tb) (w : World) (e : Ending) (w' : World) : Prop := (∃ u, e = .returned (.tuple #[u, .int .i64 (repsE g t).2]) ∧ TabB w.heap.size w' u (repsE g t).1) ∧ Below w.heap.size w w'
theorem letter_bd {c : Nat} (h : c ≤ 1000) : -1000000 ≤ letter c ∧ letter c ≤ 1000000 := by
  unfold letter
  split <;> omega
theorem fits_snoc {x : List Int} {z : Int} (h : Fits x) (hz : -9223372036854775808 ≤ z ∧ z ≤ 9223372036854775807) : Fits (x ++ [z]) := fun y hy => by
  rcases List.mem_append.1 hy with h' | h'
  · exact h y h'
  · have : y = z := by simpa using h'
    rw [this]; exact hz
theorem OutSt.first {w w2 : World} (hB : Below w.heap.size w w2) :
    OutSt 25 (fun k => k = w2.heap.size) w ((w2.alloc (.cells #[] 3)).alloc (.cells #[.slice (some ⟨w2.heap.size, 0, none⟩) 0 0] 25)) (.slice (some ⟨w2.heap.size + 1, 0, none⟩) 1 1) [[]] := by
  have hb := allocs_below [.cells #[] 3, .cells #[.slice (some ⟨w2.heap.size, 0, none⟩) 0 0] 25] w2 w2.heap.size (Nat.le_refl _)
  have e1 := allocs_get [.cells #[] 3, .cells #[.slice (some ⟨w2.heap.size, 0, none⟩) 0 0] 25] w2 0 _ rfl
  have e2 := allocs_get [.cells #[] 3, .cells #[.slice (some ⟨w2.heap.size, 0, none⟩) 0 0] 25] w2 1 _ rfl
  have h1 := hB.size
  refine ⟨hB.trans (hb.mono h1), ⟨[.slice (some ⟨w2.heap.size, 0, none⟩) 0 0], ⟨rfl, .inr ⟨w2.heap.size + 1, 1, _, rfl, by omega, e2, Nat.le_refl _, by simp [maxLen], rfl, rfl⟩⟩, rfl, fun j hj => ?_⟩, fun k hk => ?_⟩
  · obtain rfl : j = 0 := by simpa using hj
    refine ⟨_, rfl, fun w' _ => ⟨⟨_, 0, 0, rfl, rfl, Nat.le_refl _, by simp, fun h => absurd h (by omega)⟩, fun x hx => by cases hx⟩⟩
  · subst hk
    refine ⟨h1, by simp; omega, _, e1⟩
set_option maxRecDepth 100000 in
set_option maxHeartbeats 1000000 in
theorem reps50_bad (w : World) (v : Value) (g : Int) (t : Tb) (ht : Tab w v t) (hb : (check g t).1 ≠ 0) : Calls Try.prog 50 #[.int .i64 g, v] w (RepsPost g t w) := by
  have HC := Lib.hid (check43_any w v g t ht)
  obtain ⟨A, c, rfl, hc1, hc2, hc⟩ := ht.open_
  clear hc ht
  have HE : Hid (repsE g t = ([], (check g t).1)) := Lib.hid (by unfold repsE; rw [if_pos hb])
  have d1 : ((check g t).1 != 0) = true := by simpa using hb
  have HC' : Hid (Calls Try.prog 43 #[.int .i64 g, .slice A t.length c] w fun e w' => (∃ y, e = .returned (.tuple #[.int .i64 (check g t).1, .int .i64 y])) ∧ Below w.heap.size w w') :=
    Lib.hid (HC.out.mono fun e w' ⟨h2, h3⟩ => ⟨⟨_, h2⟩, h3⟩)
  clear HC
  generalize (check g t).1 = x at *
  clear hb
  go_enter Try.func50, Try.ntmps50
  go_wp2_with (go_at_call 43; (refine HC'.out.mono ?_); rintro e w' ⟨⟨y, rfl⟩, hb⟩; have HB := Lib.hid hb; clear hb)
  go_ret2
  exact ⟨⟨.slice none 0 0, ret_of2 rfl (by rw [HE.out]), by rw [HE.out]; exact TabB.nil⟩, HB.out⟩
set_option maxRecDepth 100000 in
set_option maxHeartbeats 2000000 in
theorem reps50_good (w : World) (v : Value) (g : Nat) (t : Tb) (ht : Tab w v t) (hg : TGood g t) : Calls Try.prog 50 #[.int .i64 g, v] w (RepsPost g t w) := by
  have hck := check_of_good hg
  have hn1 := hg.n1
  have HC : Hid (Calls Try.prog 43 #[.int .i64 (g : Int), v] w fun e w' => e = .returned (.tuple #[.int .i64 0, .int .i64 (-1)]) ∧ Below w.heap.size w w') :=
    Lib.hid ((check43_any w v g t ht).mono fun e w' ⟨h2, h3⟩ => by rw [hck] at h2; exact ⟨h2, h3⟩)
  have HST : Hid (∀ w', Below w.heap.size w w' → Calls Try.prog 48 #[.int .i64 (g : Int), v, .int .i64 0] w' (StdPost g t 0 w')) := Lib.hid fun w' hb => std48_good w' v g t 0 (kept_tab.below ht hb) hg (by omega) (by omega)
  have HE1 : Hid (std t 0 ≠ some t → repsE g t = ([], 13)) := Lib.hid fun h => by unfold repsE; rw [hck, if_neg (by simp), if_neg h]
  have HE2 : Hid (std t 0 = some t → repsE g t = (reps t, 0)) := Lib.hid fun h => by unfold repsE; rw [hck, if_neg (by simp), if_pos h]
  have HS1 : Hid (std t 0 = none → stdE g t 0 = ([], 13)) := Lib.hid fun h => by unfold stdE; rw [hck, if_neg (by simp), if_neg (by omega), h]
  have HS2 : Hid (∀ s, std t 0 = some s → stdE g t 0 = (s, 0)) := Lib.hid fun s h => by unfold stdE; rw [hck, if_neg (by simp), if_neg (by omega), h]
  have HSM : Hid (∀ w' u s, Tab w' u s → Below w.heap.size w w' → Calls Try.prog 109 #[u, v] w' fun e w'' => e = .returned (.bool (decide (s = t))) ∧ ∃ q, w'' = w'.drewN q) := Lib.hid fun w' u s hu hb => same109_any w' u v s t hu (kept_tab.below ht hb)
  have HTB := Lib.hid ht
  obtain ⟨A, c, rfl, hc1, hc2, hc⟩ := ht.open_
  have hn2 := hg.n2
  obtain ⟨bt, ot, rfl, hcell⟩ := hc (by omega)
  have HT := Lib.hid hcell
  have HG := Lib.hid hg
  have hg16 := hg.g16
  have hg16' : (g : Int) ≤ 16 := by omega
  have hg0 : (0 : Int) ≤ (g : Int) := Int.natCast_nonneg _
  have hn0 : (0 : Int) ≤ (t.length : Int) := Int.natCast_nonneg _
  clear hcell hc ht hck hg
  rcases hs : std t 0 with _ | s
  · have hSE := HS1.out hs
    have HST' : Hid (∀ w', Below w.heap.size w w' → Calls Try.prog 48 #[.int .i64 (g : Int), .slice (some ⟨bt, ot, none⟩) t.length c, .int .i64 0] w' fun e w'' => (∃ u, e = .returned (.tuple #[u, .int .i64 13])) ∧ Below w'.heap.size w' w'') := Lib.hid fun w' hb => (HST.out w' hb).mono fun e w'' ⟨⟨u, h1, h2⟩, h3⟩ => by
      rw [hSE] at h1
      exact ⟨⟨u, h1⟩, h3⟩
    have HZ := Lib.hid (HE1.out (by rw [hs]; simp))
    clear hs hSE
    go_enter Try.func50, Try.ntmps50
    go_wp2_with (first
      | (go_at_call 43; (refine HC.out.mono ?_); rintro e w1 ⟨rfl, hb⟩; have HB1 := Lib.hid hb; clear hb)
      | (go_at_call 48; (refine (HST'.out _ HB1.out).mono ?_); rintro e w2 ⟨⟨u, rfl⟩, hb⟩; have HB2 := Lib.hid (HB1.out.trans (hb.mono HB1.out.size)); clear hb))
    go_ret2
    exact ⟨⟨.slice none 0 0, ret_of2 rfl (by rw [HZ.out]), by rw [HZ.out]; exact TabB.nil⟩, HB2.out⟩
  · have hSE := HS2.out s hs
    have HST' : Hid (∀ w', Below w.heap.size w w' → Calls Try.prog 48 #[.int .i64 (g : Int), .slice (some ⟨bt, ot, none⟩) t.length c, .int .i64 0] w' fun e w'' => (∃ u, e = .returned (.tuple #[u, .int .i64 0]) ∧ Hid (Tab w'' u s)) ∧ Below w'.heap.size w' w'') := Lib.hid fun w' hb => (HST.out w' hb).mono fun e w'' ⟨⟨u, h1, h2⟩, h3⟩ => by
      rw [hSE] at h1 h2
      exact ⟨⟨u, h1, Lib.hid h2⟩, h3⟩
    clear HST hSE
    by_cases hst : s = t
    · subst hst
      have HZ := Lib.hid (HE2.out hs)
      have HSTD := Lib.hid (std_iff hs)
      have HSM' : Hid (∀ w' u, Tab w' u s → Below w.heap.size w w' → Calls Try.prog 109 #[u, .slice (some ⟨bt, ot, none⟩) s.length c] w' fun e w'' => e = .returned (.bool true) ∧ ∃ q, w'' = w'.drewN q) := Lib.hid fun w' u hu hb => by
        have := HSM.out w' u s hu hb
        rwa [decide_eq_true rfl] at this
      clear hs HSM
      go_enter Try.func50, Try.ntmps50
      go_wp2_with (first
        | (go_at_call 43; (refine HC.out.mono ?_); rintro e w1 ⟨rfl, hb⟩; have HB1 := Lib.hid hb; clear hb)
        | (go_at_call 48; (refine (HST'.out _ HB1.out).mono ?_); rintro e w2 ⟨⟨u, rfl, HU⟩, hb⟩; have HB2 := Lib.hid (HB1.out.trans (hb.mono HB1.out.size)); clear hb)
        | (go_at_call 109; (refine (HSM'.out _ _ HU.out HB2.out).mono ?_); rintro e w3 ⟨rfl, q, rfl⟩))
      have hot := OutSt.first (below_drewN HB2.out q)
      have HOT := Lib.hid hot
      clear hot
      go_loopw [10, 11] (fun so i wr => ∃ k m : Nat, i = .int .i64 k ∧ k ≤ s.length ∧ Hid (m = (foldTo (repRow s) k [[]]).length) ∧ ∃ F A c, so = .slice A m c ∧ Hid (OutSt 25 F w wr so (foldTo (repRow s) k [[]]))) (fun _ i _ => s.length - (intOf i).toNat)
      case atStart => exact ⟨0, 1, rfl, by omega, Lib.hid rfl, _, _, _, rfl, HOT⟩
      case round =>
        clear HOT
        obtain ⟨k, m, rfl, hk, HM, F, A2, c2, rfl, HST⟩ := hrel
        have hk0 : (0 : Int) ≤ (k : Int) := Int.natCast_nonneg _
        by_cases hlt : k < s.length
        · have hlt' : (k : Int) < (s.length : Int) := by omega
          obtain ⟨m0, hm0, ho0, hR0⟩ := rep_at HG.out HSTD.out k hk
          have hrow := rep_row HG.out HSTD.out hlt (hm0 hlt) ho0 hR0
          have HROW := Lib.hid hrow
          have HM0 := Lib.hid (hm0 hlt)
          have hrl := HG.out.len k hlt
          have HRL := Lib.hid hrl
          obtain ⟨u, hu, hI⟩ := HT.out k hlt
          have HU2 := Lib.hid hu
          have hI2 : IntsAt w u (s.row k) := hI
          obtain ⟨Au, cu, rfl, hu1, hu2, huc⟩ := hI2.open_
          obtain ⟨bu, ou, rfl, huc'⟩ := huc (by have := HG.out.g1; omega)
          have HUC := Lib.hid huc'
          have hu3 := (HST.out.below.cell (p := ⟨bt, ot + k, none⟩) (World.block_lt_of_cell? w _ HU2.out)).trans HU2.out
          clear hu hI hI2 huc huc' hrl hrow ho0 hR0 hm0
          go_wp2_with fail
          go_loopw [10, 50] (fun so i wr => ∃ j m : Nat, i = .int .i64 j ∧ j ≤ (s.row k).length ∧ Hid (m = (foldTo (repCol s k) j (foldTo (repRow s) k [[]])).length) ∧ ∃ F A c, so = .slice A m c ∧ Hid (OutSt 25 F w wr so (foldTo (repCol s k) j (foldTo (repRow s) k [[]])))) (fun _ i _ => (s.row k).length - (intOf i).toNat)
          case atStart => exact ⟨0, m, rfl, by omega, HM, _, _, _, rfl, HST⟩
          case round =>
            clear hu3 HST HM
            obtain ⟨j, m, rfl, hj, HM, F, A2, c2, rfl, HS⟩ := hrel
            have hj0 : (0 : Int) ≤ (j : Int) := Int.natCast_nonneg _
            by_cases hjl : j < (s.row k).length
            · have hjl3 : (j : Int) < (((s.row k).length : Int)) := by omega
              have hjl2 : j < (s.row k).length := by have := HRL.out; omega
              have hjl4 : (j : Int) < ((s.row k).length : Int) := by omega
              have hj32 : j < 2 * g := by have := HRL.out; omega
              have hcs := HUC.out j hjl2
              have hcs' := (HS.out.below.cell (p := ⟨bu, ou + j, none⟩) (World.block_lt_of_cell? w _ hcs)).trans hcs
              have hu3 := (HS.out.below.cell (p := ⟨bt, ot + k, none⟩) (World.block_lt_of_cell? w _ HU2.out)).trans HU2.out
              obtain ⟨m1, hm1, hR1⟩ := HROW.out j (by omega)
              have hbd := HG.out.bd k hlt j hj32
              have hml : m = m1 := by rw [HM.out]; exact hR1.ol
              have hmn : m ≤ s.length := by rw [hml]; exact hR1.le
              have hkm : k < m := by have := HM0.out; omega
              have hwl := hR1.wl k (by omega)
              have hat : (s.row k).getD j 0 = s.at k j := rfl
              rw [hat] at hcs'
              have HSJ0 : Hid (s.at k j = ((foldTo (repCol s k) j (foldTo (repRow s) k [[]])).length : Int) → foldTo (repCol s k) (j + 1) (foldTo (repRow s) k [[]]) = foldTo (repCol s k) j (foldTo (repRow s) k [[]]) ++ [(foldTo (repCol s k) j (foldTo (repRow s) k [[]])).getD k [] ++ [letter j]]) := Lib.hid fun h => if_pos h
              have HSJ1 : Hid (s.at k j ≠ ((foldTo (repCol s k) j (foldTo (repRow s) k [[]])).length : Int) → foldTo (repCol s k) (j + 1) (foldTo (repRow s) k [[]]) = foldTo (repCol s k) j (foldTo (repRow s) k [[]])) := Lib.hid fun h => if_neg h
              rw [← HM.out] at HSJ0 HSJ1
              clear hcs hat hR1 hm1 hml
              generalize foldTo (repCol s k) j (foldTo (repRow s) k [[]]) = oj at *
              generalize s.at k j = x at *
              have hI1 : -9223372036854775808 ≤ x := by omega
              have hI3 : x ≤ 9223372036854775807 := by omega
              clear hbd
              have hm64 : (m : Int) ≤ 20000 := by omega
              by_cases hx : x = (m : Int)
              · have d5 : (x == (m : Int)) = true := by simpa using hx
                have HSJ := Lib.hid (HSJ0.out hx)
                have HM8 : Hid (m + 1 = (foldTo (repCol s k) (j + 1) (foldTo (repRow s) k [[]])).length) := Lib.hid (by rw [HSJ.out, List.length_append, HM.out]; rfl)
                obtain ⟨A5, c5, e5, ht1, ht2, ht3⟩ := HS.out.out.tab.open_
                obtain ⟨rfl, -, rfl⟩ := Value.slice.inj e5
                obtain ⟨b5, o5, rfl, hoc⟩ := ht3 (by have := HM.out; omega)
                obtain ⟨u5, hu5, hI5⟩ := hoc k (by have := HM.out; omega)
                have hkm' : (k : Int) < (m : Int) := by omega
                have HF := Lib.hid hI5.2
                have HLB : Hid (-9223372036854775808 ≤ letter j ∧ letter j ≤ 9223372036854775807) := Lib.hid (by have := letter_bd (c := j) (by omega); omega)
                clear hx hoc ht3 e5
                (
                  have HCL := Lib.hid (clone71_any wr u5 (oj.getD k []) hI5 (by omega))
                  clear hI5
                  go_wp2_with (first
                    | (go_at_call 71; (refine HCL.out.mono ?_); rintro e w5 ⟨A7, c7, rfl, ho, hb⟩
                       obtain ⟨A8, c8, w6, hr6, hS6⟩ := (HS.out.with_row hb ho).add (by decide) 25 Try.underlying25 (letter j) (by omega)
                       obtain ⟨A9, c9, w7, hr7, hS7⟩ := hS6.done (by decide) Try.underlying31 info25p (fits_snoc HF.out HLB.out) (by have := HM.out; omega)
                       rw [← HM.out] at hr7 hS7
                       have HR6 := Lib.hid hr6
                       have HR7 := Lib.hid hr7
                       rw [← HSJ.out] at hS7
                       have HS7 := Lib.hid hS7
                       clear ho hb hr6 hr7 hS6 hS7)
                    | (go_at_call 110; (refine (letter110_any _ j (by omega)).mono ?_); rintro e w8 ⟨rfl, rfl⟩)
                    | ((with_reducible refine wpList_sel 68 ?_); refine wpList_val rfl (r_app (.tmp 64) (.tmp 67) 25 rfl rfl rfl HR6.out) ?_)
                    | ((with_reducible refine wpList_sel 70 ?_); refine wpList_val rfl (r_app (.tmp 59) (.tmp 69) 31 rfl rfl rfl HR7.out) ?_))
                  go_roundw
                  case rel => exact ⟨j + 1, m + 1, by go_num, by omega, HM8, _, _, _, rfl, HS7⟩
                  case measure => simp [intOf]; omega
                )
              · have d5 : (x == (m : Int)) = false := by simpa using hx
                have HSJ := Lib.hid (HSJ1.out hx)
                rw [← HSJ.out] at HS HM
                clear hx
                go_wp2_with fail
                go_roundw
                case rel => exact ⟨j + 1, m, by go_num, by omega, HM, _, _, _, rfl, HS⟩
                case measure => simp [intOf]; omega
            · obtain rfl : j = (s.row k).length := by omega
              have he : foldTo (repRow s) (k + 1) [[]] = foldTo (repCol s k) ((s.row k).length) (foldTo (repRow s) k [[]]) := rfl
              rw [← he] at HS HM
              clear he
              go_wp2_with fail
              go_roundw
              case rel => exact ⟨k + 1, m, by go_num, by omega, HM, _, _, _, rfl, HS⟩
              case measure => simp [intOf]; omega
        · obtain rfl : k = s.length := by omega
          have HT2 := Lib.hid HST.out.tabB
          have HBW := Lib.hid HST.out.below
          go_wp2_with fail
          go_ret2
          exact ⟨⟨_, ret_of2 rfl (by rw [HZ.out]), by rw [HZ.out]; exact HT2.out⟩, HBW.out⟩
    · have HZ := Lib.hid (HE1.out (by rw [hs]; simpa using hst))
      rw [hs] at HE2
      have HSM' : Hid (∀ w' u, Tab w' u s → Below w.heap.size w w' → Calls Try.prog 109 #[u, .slice (some ⟨bt, ot, none⟩) t.length c] w' fun e w'' => e = .returned (.bool false) ∧ ∃ q, w'' = w'.drewN q) := Lib.hid fun w' u hu hb => by
        have := HSM.out w' u s hu hb
        rwa [decide_eq_false hst] at this
      clear hs hst HSM
      go_enter Try.func50, Try.ntmps50
      go_wp2_with (first
        | (go_at_call 43; (refine HC.out.mono ?_); rintro e w1 ⟨rfl, hb⟩; have HB1 := Lib.hid hb; clear hb)
        | (go_at_call 48; (refine (HST'.out _ HB1.out).mono ?_); rintro e w2 ⟨⟨u, rfl, HU⟩, hb⟩; have HB2 := Lib.hid (HB1.out.trans (hb.mono HB1.out.size)); clear hb)
        | (go_at_call 109; (refine (HSM'.out _ _ HU.out HB2.out).mono ?_); rintro e w3 ⟨rfl, q, rfl⟩))
      go_ret2
      exact ⟨⟨.slice none 0 0, ret_of2 rfl (by rw [HZ.out]), by rw [HZ.out]; exact TabB.nil⟩, below_drewN HB2.out q⟩
end Go.Proofs
