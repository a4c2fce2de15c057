/- prime.Factors; append of one list to another of the call's own; slices.Grow and slices.Concat at lists of rows; (smith.columns).add and swap: the rows of two matrices, one after the other; (smith.columns).swap and (smith.rows).swap. -/
import Derived.Test.YthfachbkcmifbaaPoCS3
import Derived.Test.YthfachbkcmifbaaPoCS1
import Derived.Test.YthfachbkcmifbaaPoCS2
import Derived.Deep.RegionHeld3
namespace Go.Proofs
open Go.RowKit Go.Shelf Go.Proofs.Sm
attribute [local simp, local go_sem] wide_fn wide_depth
attribute [local go_sem] Oper.semAt_some
theorem factors64_any (w : World) (x : Int) : Calls Try.prog 64 #[.int .i64 x] w fun e w' => e = .returned (.func (.func 79) #[] #[.pointer (some ⟨w.heap.size, 0, none⟩)]) ∧ w' = w.alloc (.cells #[.int .i64 x] 3) := by
  go_enter Try.func64, Try.ntmps64
  go_wp2_with fail
  go_ret
  exact ⟨rfl, rfl⟩
/-- the factors, at most as many as n has bits: m * 2 ^ k ≤ n behind k of them -/
theorem factF_len2 : ∀ {f n k : Nat}, 1 ≤ n → n < 2 ^ (k + 1) → (factF n f).length ≤ k
  | 0, _, _, _, _ => Nat.zero_le _
  | f + 1, n, k, h0, h => by
    unfold factF
    by_cases h1 : 1 < n
    · rw [if_pos h1]
      obtain ⟨hp, hd⟩ := divN_spec (n := n) (by omega)
      obtain ⟨j, a, b, c, d⟩ := stripF_spec hp.1 (f := n) (n := n) (k := 0) (by omega) (Nat.le_refl _)
      have h2 := strip_lt2 h1
      have hj : 1 ≤ j := by have := h2.2.2; omega
      have h3 : 2 ≤ divN n ^ j := Nat.le_trans hp.1 (by
        have := Nat.pow_le_pow_right (show 0 < divN n by have := hp.1; omega) hj
        rwa [Nat.pow_one] at this)
      have h4 := Nat.mul_le_mul_left (stripF (divN n) n 0 n).1 h3
      rw [← b] at h4
      cases k with
      | zero => simp at h; omega
      | succ k =>
        have h5 : (stripF (divN n) n 0 n).1 < 2 ^ (k + 1) := by
          rw [Nat.pow_succ] at h
          omega
        have := factF_len2 (f := f) h2.2.1 h5
        simp only [List.length_cons]
        omega
    · rw [if_neg h1]
      exact Nat.zero_le _
theorem factN_len {n : Nat} (h : n ≤ 1000000000) : (factN n).length ≤ 29 := by
  rcases Nat.eq_zero_or_pos n with h0 | h0
  · subst h0
    exact Nat.zero_le _
  · exact factF_len2 h0 (Nat.lt_of_le_of_lt h (by decide))
/-- the list of the factors under way -/
structure FaSt (w : World) (B : Nat) (X : List Pr) (W : World) : Prop where
  below : Below w.heap.size w W
  out : ∃ A c, W.heap[w.heap.size]? = some (.cells #[.slice A X.length c] 53 (0, 0)) ∧ OwnP B W (.slice A X.length c) X
theorem FaSt.below' {w W W' : World} {B : Nat} {X : List Pr} (h : FaSt w B X W) (hb : Below W.heap.size W W') : FaSt w B X W' :=
  ⟨h.below.trans (hb.mono h.below.size), let ⟨A, c, h1, h2⟩ := h.out; ⟨A, c, (hb.block _ (Array.getElem?_eq_some_iff.1 h1).1).trans h1, owns_below h2 hb⟩⟩
theorem FaSt.other {w W W' : World} {B : Nat} {X : List Pr} (h : FaSt w B X W) (l : Nat) (h1 : w.heap.size < l) (he : W'.os = W.os ∧ W'.tape = W.tape ∧ W'.output = W.output ∧ W.heap.size ≤ W'.heap.size)
    (hk : ∀ k, k ≠ l → W'.heap[k]? = W.heap[k]?) (hl : l < B ∨ ∃ o : Obj, W.heap[l]? = some o ∧ o.isCells = false) : FaSt w B X W' := by
  refine ⟨h.below.trans ⟨he.1, he.2.1, he.2.2.1, he.2.2.2, fun k hk' => hk k (by omega)⟩, ?_⟩
  obtain ⟨A, c, h2, h3⟩ := h.out
  refine ⟨A, c, (hk _ (by omega)).trans h2, owns_keep h3 fun r hr => hk r fun e => ?_⟩
  obtain ⟨h4, C, h5⟩ := h3.block r hr
  rcases hl with hl | ⟨o, h6, h7⟩
  · omega
  · rw [e, h6] at h5; cases h5; cases h7
theorem FaSt.push {w W : World} {B : Nat} {X : List Pr} (h : FaSt w B X W) (hB : w.heap.size + 1 ≤ B) (hBW : B ≤ W.heap.size) (hX : X.length ≤ 1000000) (p : Pr) : ∃ A c A' c' W', W.cell? ⟨w.heap.size, 0, none⟩ = some (.slice A X.length c) ∧
    (Builtin.append_ #[53, 53] 53 #[.slice A X.length c, .slice (some ⟨W.heap.size, 0, none⟩) 1 1]).run Try.prog (W.alloc (.cells #[.int .i64 p.1, .int .i64 p.2] 56)) = .ok (.slice A' (X.length + 1) c') W' ∧
    (W'.cell? ⟨w.heap.size, 0, none⟩ = some (.slice A X.length c) ∧ W'.frozen? ⟨w.heap.size, 0, none⟩ = false) ∧
    Turned w.heap.size B W (W'.setCell ⟨w.heap.size, 0, none⟩ (.slice A' (X.length + 1) c')) ∧ FaSt w B (X ++ [p]) (W'.setCell ⟨w.heap.size, 0, none⟩ (.slice A' (X.length + 1) c')) := by
  obtain ⟨A, c, h1, h2⟩ := h.out
  obtain ⟨A', c', W', hr, ho, hg, hw⟩ := push_pr h2 p (by omega) hBW
  have hrow : ∀ r, (Value.slice A X.length c).ownBlock = some r → B ≤ r ∧ ∃ o : Obj, W.heap[r]? = some o ∧ o.isCells = true := fun r hr => by
    obtain ⟨h4, C, h5⟩ := h2.block r hr
    exact ⟨h4, _, h5, rfl⟩
  have hne : ∀ k, k < W.heap.size → k < B → W'.heap[k]? = W.heap[k]? := fun k hk hkB => hg.block k hk fun e => by have := (hrow k e.symm).1; omega
  have hwl := h.below.size
  have h1lt := (Array.getElem?_eq_some_iff.1 h1).1
  have h1' := (hne _ h1lt (by omega)).trans h1
  have hset : ∀ k, k ≠ w.heap.size → (W'.setCell ⟨w.heap.size, 0, none⟩ (.slice A' (X.length + 1) c')).heap[k]? = W'.heap[k]? := fun k hk => Below.heap_setCell W' ⟨w.heap.size, 0, none⟩ _ k hk
  refine ⟨A, c, A', c', W', (cell_of1 h1).1, hr, cell_of1 h1', (Turned.grown hg hrow).trans (Turned.set _), ?_, A', c', ?_, ?_⟩
  · have hsz := hg.size
    exact h.below.trans ⟨hg.os, hg.tape, hg.output, by simpa [World.setCell] using hsz, fun k hk => (hset k (by omega)).trans (hne k (by omega) (by omega))⟩
  · simp [World.setCell, Array.getElem?_modify, h1']
  · rw [List.length_append]
    refine owns_keep ho fun r hr' => hset r fun e => ?_
    obtain ⟨h4, C, h5⟩ := OwnP.block ho r hr'
    omega
theorem take_getD2 (L : List Pr) {k : Nat} (h : k < L.length) : L.take k ++ [L.getD k (0, 0)] = L.take (k + 1) := by
  rw [List.take_succ_eq_append_getElem h, List.getD_eq_getElem?_getD, List.getElem?_eq_getElem h]; rfl
/-- the activation at a round's body -/
def bare45 (b : Nat) (x : Int) (fv : Value) (p k : Int) : Act :=
  { tmps := #[.int .i64 x, undef, .slice none 0 0, .int .i64 0, .pointer (some ⟨b, 0, none⟩), .int .i64 p, .int .i64 k, .int .i64 x, .bool false, .bool false, .int .i64 x, .bool false, .bool false, .int .i64 x, fv, .int .i64 p, .int .i64 k, undef, undef, undef, undef, undef, undef, undef], defers := [] }
def FacsPost (L : List Pr) (w : World) (e : Ending) (w' : World) : Prop := ∃ A c, e = .returned (.tuple #[.slice A L.length c, .int .i64 0]) ∧ OwnP w.heap.size w' (.slice A L.length c) L ∧ Below w.heap.size w w'
set_option maxRecDepth 100000 in
set_option maxHeartbeats 4000000 in
theorem factors45_in (n : Nat) (w : World) (m : Nat) (h1 : 1 ≤ m) (h2 : m ≤ 1000000000) : CallsIn Fence.wide n Try.prog 45 #[.int .i64 (m : Int)] w (FacsPost (factN m) w) := by
  have hlen := factN_len h2
  have hd1 : ¬ (m : Int) < 1 := by omega
  have hd2 : ¬ (1000000000 : Int) < (m : Int) := by omega
  obtain ⟨L, hL⟩ : ∃ L, L = factN m := ⟨_, rfl⟩
  rw [← hL] at hlen ⊢
  have HL : Hid (factF m m = L) := Lib.hid hL.symm
  clear hL
  refine callsIn_of_wp_marks Try.func45 rfl trivial ?_ rfl
  simp only [Try.ntmps45, List.size_toArray, List.length_cons, List.length_nil, Nat.reduceAdd, Nat.reduceSub, Array.replicate_succ, Array.replicate_zero, List.push_toArray, List.append_toArray, List.nil_append, List.cons_append]
  gi_wp2_with ((refine (callsIn_wide.2 (factors64_any _ _)).mono ?_); rintro e w' ⟨rfl, rfl⟩)
  obtain ⟨W0, hW0⟩ : ∃ W0, (w.alloc (.cells #[.slice none 0 0] 53)).alloc (.cells #[.int .i64 (m : Int)] 3) = W0 := ⟨_, rfl⟩
  have hs0 : W0.heap.size = w.heap.size + 2 := by rw [← hW0]; simp
  have hb0 : Below w.heap.size w W0 := by rw [← hW0]; exact ((Below.refl _ w).alloc (Nat.le_refl _) _).alloc (by simp) _
  have ho0 : W0.heap[w.heap.size]? = some (.cells #[.slice none 0 0] 53 (0, 0)) := by rw [← hW0]; exact (Below.heap_alloc (w.alloc (.cells #[.slice none 0 0] 53)) _ _ (by simp)).trans (heap_alloc_new w _)
  have hr0 : W0.heap[w.heap.size + 1]? = some (.cells #[.int .i64 (m : Int)] 3 (0, 0)) := by rw [← hW0]; have := heap_alloc_new (w.alloc (.cells #[.slice none 0 0] 53)) (.cells #[.int .i64 (m : Int)] 3); rwa [World.size_alloc] at this
  have hst : FkSt w W0 (w.heap.size + 1) m := ⟨hb0, hr0⟩
  have hfa : FaSt w W0.heap.size [] W0 := ⟨hb0, none, 0, ho0, OwnP.nil _ _⟩
  rw [hW0]
  have HST := Lib.hid hst
  have HFA := Lib.hid hfa
  clear hW0 hb0 ho0 hr0 hst hfa
  refine wpIn_rangeWalk (gf := 79) (lb := #[.pointer (some ⟨w.heap.size + 1, 0, none⟩)]) rfl (enters_of Try.func79 (by kernel_rfl) rfl)
    (encs := encF L) (S := FkS w (w.heap.size + 1)) L.length w.heap.size (w.heap.size + 1) (by omega) (by omega) (fun k hk => by unfold FkS at hk; omega) (fun _ => rfl)
    (fun l J W hb hJa hJs hY h0 => walk79 (n - 1) l _ J W w m L m (HST.out.below' hb) (by omega) h2 HL.out (Nat.le_refl _) hJa hJs hY h0)
    (fun k W => FaSt w W0.heap.size (L.take k) W)
    (fun k A B h hb => h.below' hb) (fun k A v h hc => h.other (w.heap.size + 1) (by omega) ⟨rfl, rfl, rfl, by simp [World.setCell]⟩ (fun k hk => Below.heap_setCell A ⟨w.heap.size + 1, 0, none⟩ v k hk) (.inl (by omega)))
    (fun k A l o o' h hl ho hn => h.other l (by omega) ⟨rfl, rfl, rfl, by simp⟩ (fun k hk => World.putObj_heap_other hk) (.inr ⟨o, ho, hn⟩))
    HFA.out (fun k => bare45 w.heap.size m (.func (.func 79) #[] #[.pointer (some ⟨w.heap.size + 1, 0, none⟩)]) (L.getD k (0, 0)).1 (L.getD k (0, 0)).2) ?assign ?body ?done
  case assign =>
    rintro l k W K hK
    simp only [encF]
    gi_wp2_with (rw [Oper.semAt_eq _ _ _ (fun c h => by cases h)]; go_simp)
    exact hK
  case body =>
    rintro l k W hFA hk hsz
    have hlk : (L.take k).length = k := by rw [List.length_take]; omega
    obtain ⟨A, c, A', c', W3, hxc, happ, ⟨hyc, hyf⟩, htu, hrs⟩ := hFA.push (by omega) hsz (by omega) (L.getD k (0, 0))
    rw [take_getD2 L hk] at hrs
    rw [hlk] at hxc happ hyc htu hrs
    clear hlk
    have HAPP := Lib.hid happ
    have HTU := Lib.hid htu
    have HRS := Lib.hid hrs
    clear hFA happ htu hrs HL HST HFA
    generalize (L.getD k (0, 0)).1 = p at *
    generalize (L.getD k (0, 0)).2 = e at *
    simp only [bare45]
    gi_wp2_with (first
      | ((with_reducible refine wpListIn_selR 22 ?_); refine wpListIn_valR rfl (fun c h => by cases h) (r_app (.tmp 17) (.tmp 21) 53 rfl rfl rfl HAPP.out) ?_)
      | (rw [Oper.semAt_eq _ _ _ (fun c h => by cases h)]; go_simp))
    exact ⟨HTU.out, HRS.out⟩
  case done =>
    rintro D W hD hFA hDD
    rw [List.take_length] at hFA
    obtain ⟨A, c, ho, hown⟩ := hFA.out
    have hob := (cell_of1 ho).1
    have HRS := Lib.hid (And.intro hFA.below hown)
    have HDD := Lib.hid hDD
    clear hown ho hFA hDD HL HST HFA
    gi_wp2_with fail
    have hDD2 := HDD.out
    refine ⟨by simp, .inl ⟨_, _, rfl, run_takeDeferred hDD2, ?_⟩⟩
    refine ⟨_, results_tmp2 rfl _ _ _, ?_⟩
    have hkk : ∀ k, k ≠ D → (W.putObj D (.deferred none)).heap[k]? = W.heap[k]? := fun k hk => World.putObj_heap_other hk
    refine ⟨A, c, rfl, owns_base (owns_keep HRS.out.2 fun r hr' => hkk r fun e => ?_) (by omega), HRS.out.1.trans ⟨rfl, rfl, rfl, by simp, fun k hk => hkk k (by omega)⟩⟩
    obtain ⟨-, C, hC⟩ := OwnP.block HRS.out.2 r hr'
    rw [e, hDD2] at hC
    cases hC
theorem factors45_yes (w : World) (m : Nat) (h1 : 1 ≤ m) (h2 : m ≤ 1000000000) : Calls Try.prog 45 #[.int .i64 (m : Int)] w (FacsPost (factN m) w) := callsIn_wide.1 (factors45_in 0 w m h1 h2)
theorem factors45_no (w : World) (x : Int) (h : x < 1 ∨ 1000000000 < x) : Calls Try.prog 45 #[.int .i64 x] w fun e w' => e = .returned (.tuple #[.slice none 0 0, .int .i64 2]) ∧ w' = w := by
  by_cases h1 : x < 1
  · clear h
    go_enter Try.func45, Try.ntmps45
    go_wp2_with fail
    go_ret2
    exact ⟨rfl, rfl⟩
  · have h2 : (1000000000 : Int) < x := by omega
    clear h
    go_enter Try.func45, Try.ntmps45
    go_wp2_with fail
    go_ret2
    exact ⟨rfl, rfl⟩
end Go.Proofs
namespace Go.Proofs
open Go.RowKit Go.Shelf Go.Maps
theorem run_append_none (w : World) (base : Nat) (t ty e : TypeId) (i : TypeInfo) (ht : Try.prog.underlying t = some (.slice e)) (hi : Try.prog.info? e = some i) (_hs : i.size = 1)
    (v : Value) (n : Nat) (xs : List Value) (cap : Nat) (hown : w.ownsRow base e 1 v n xs) : (Builtin.append_ #[t, t] ty #[v, .slice none 0 cap]).run Try.prog w = .ok v w := by
  rcases hown.2 with ⟨rfl, rfl⟩ | ⟨g, cap', cur, rfl, -, hg, hnc, hcm, hcs, htake⟩
  · simp [Builtin.append_, run_underlying ht, sizeOf, typeInfo, hi, Builtin.lenOf, Builtin.firstCells]
  · simp [Builtin.append_, run_underlying ht, sizeOf, typeInfo, hi, Builtin.lenOf, Builtin.firstCells, hnc, storeCells]
/-- append(v, u...): v is of the call's own, u is read -/
theorem run_app {t ty e : TypeId} {z : Value} {bytes : Nat} (ht : Try.prog.underlying t = some (.slice e)) (hi : ∃ i, Try.prog.info? e = some i ∧ i.zero = some z ∧ i.size = 1 ∧ i.bytes = bytes) (hz : z.cells.size = 1) (hby : bytes ≤ 1000)
    (w : World) (base : Nat) (v : Value) (n : Nat) (xs : List Value) (hown : w.ownsRow base e 1 v n xs) (u : Value) (ys : List Value) (hu : Sl w u ys) (h1 : ∀ y ∈ ys, y.oneCell' = true) (hn : n ≤ 1000000) (hm : ys.length ≤ 1000000) (hb : base ≤ w.heap.size) :
    ∃ A' c' w', (Builtin.append_ #[t, t] ty #[v, u]).run Try.prog w = .ok (.slice A' (n + ys.length) c') w' ∧ w'.ownsRow base e 1 (.slice A' (n + ys.length) c') (n + ys.length) (xs ++ ys) ∧
      w.grownBy w' v.ownBlock ∧ ((Value.slice A' (n + ys.length) c').ownBlock = v.ownBlock ∨ ∃ r, (Value.slice A' (n + ys.length) c').ownBlock = some r ∧ w.heap.size ≤ r) := by
  obtain ⟨i, hi, hz', hs, hb'⟩ := hi
  obtain ⟨A, m, cap, rfl, hl, hc1, hc2, hcells⟩ := hu
  cases A with
  | none =>
    have hm0 : ys = [] := by
      rcases Nat.eq_zero_or_pos m with h0 | h0
      · exact List.length_eq_zero_iff.1 (by omega)
      · obtain ⟨_, _, h, -⟩ := hcells h0; cases h
    subst hm0
    obtain ⟨A', c', rfl⟩ := owns_form hown
    have hm1 : m = 0 := hl
    subst hm1
    exact ⟨A', c', w, run_append_none w base t ty e i ht hi hs _ n xs cap hown, by simpa using hown, World.grownBy.refl w _, .inl rfl⟩
  | some a =>
    obtain ⟨v', w', hr, hown', hg, -, hw⟩ := run_append_own_at (P := Try.prog) w base t ty e i z 1 bytes ht hi hz' hs hb' hz (by omega) v n xs hown a m cap ys (by omega) (fun j y hy => by
        have hj := (List.getElem?_eq_some_iff.1 hy).1
        obtain ⟨b, off, ha, hr⟩ := hcells (by omega)
        rw [Option.some.inj ha]
        have h3 := hr j y hy
        rcases Nat.eq_zero_or_pos j with h0 | h0
        · subst h0; simpa [Addr.add] using h3
        · simpa [Addr.add, show j ≠ 0 by omega] using h3) h1 (by unfold maxLen; omega)
      (by have : (n + m) * bytes ≤ 2000000 * 1000 := Nat.mul_le_mul (by omega) hby
          omega) hb
    obtain ⟨A', c', rfl⟩ := owns_form hown'
    have hm1 : m = ys.length := by omega
    subst hm1
    refine ⟨A', c', w', hr, hown', hg, ?_⟩
    rcases hw with hw | hw
    · exact .inl hw
    · exact .inr ⟨_, hw, Nat.le_refl _⟩
end Go.Proofs
namespace Go.Proofs
open Go.RowKit Go.Shelf Go.Proofs.Sm
theorem run_append_zeros (w : World) (n : Nat) (h0 : 0 < n) (hn : n ≤ 1000000) :
    (Builtin.append_ #[22, 3] 22 #[.slice none 0 0, .int .i64 (n : Int)]).run Try.prog w =
      .ok (.slice (some ⟨w.heap.size, 0, none⟩) n (grownCap w n 0 25)) (w.drew.alloc (.cells (Builtin.zeroCells #[.slice none 0 0] n ++ Builtin.zeroCells #[.slice none 0 0] (grownCap w n 0 25 - n)) 25)) := by
  obtain ⟨i, hi, hz, hs, hby⟩ := info24p
  have hwr : IntKind.i64.wrap (n : Int) = n := IntWalk.i64_in _ (by omega)
  have hn0 : n ≠ 0 := by omega
  have h48 : ¬ (281474976710656 < Builtin.nextslicecap n 0 * i.bytes) := by rw [nextslicecap_zero h0, hby]; omega
  have h48' : ¬ ((281474976710656 : Int) < (n : Int) * (i.bytes : Int)) := by rw [hby]; omega
  have h63' : ¬ (9223372036854775807 < (n : Int)) := by omega
  have hneg : ¬ ((n : Int) < 0) := by omega
  simp [Builtin.append_, run_underlying Try.underlying22, run_underlying Try.underlying3, sizeOf, typeInfo, zeroValue, hi, hz, hs, asInt, asIntOf, hwr, hneg, h48', hn0, h48, h63', Question.forced, run_firstCells_none, newRow, grownCap, Value.cells]
theorem r_app2 {o : Oper} {a : Act} {w w' : World} (s x : Operand) (t u : TypeId) {sv xv v' : Value} (ho : o.op = .call { callee := .builtin .append, args := #[s, x], argTypes := #[t, u] }) (hs : a.eval s = sv) (hx : a.eval x = xv)
    (hr : (Builtin.append_ #[t, u] o.type #[sv, xv]).run Try.prog w = .ok v' w') : (execOp a.eval o).run Try.prog w = .ok (.value v') w' := by
  unfold execOp
  simp only [ho, resolve, invoke, builtin, Sem.run_bind, Sem.run_pure, Result.andThen_ok, List.map_toArray, List.map_cons, List.map_nil, hs, hx, hr]
/-- values of the call's own -/
def ValsPost (base : Nat) (x : List Value) (w : World) (e : Ending) (w' : World) : Prop := ∃ A c, e = .returned (.slice A x.length c) ∧ w'.ownsRow base 25 1 (.slice A x.length c) x.length x ∧ Below w.heap.size w w'
set_option maxRecDepth 100000 in
theorem grow98_any (w : World) (n : Nat) (hn : n ≤ 1000000) : Calls Try.prog 98 #[.slice none 0 0, .int .i64 (n : Int)] w (ValsPost w.heap.size [] w) := by
  have hn0 : (0 : Int) ≤ (n : Int) := Int.natCast_nonneg _
  have hn1 : (n : Int) ≤ 1000000 := by omega
  by_cases h0 : n = 0
  · subst h0
    go_enter Try.func98, Try.ntmps98
    go_wp2_with fail
    go_ret
    exact ⟨none, 0, rfl, World.ownsRow_nil _ _ _ _, Below.refl _ _⟩
  · have hpos : (0 : Int) < (n : Int) := by omega
    have hr := run_append_zeros w n (by omega) hn
    have hcm := grownCap_le_maxLen w n 0 25 (by unfold maxLen; omega)
    have hcg := grownCap_ge w n 0 25
    have hsz : (Builtin.zeroCells #[Value.slice none 0 0] n ++ Builtin.zeroCells #[Value.slice none 0 0] (grownCap w n 0 25 - n)).size = grownCap w n 0 25 := by
      simp [size_zeroCells]; omega
    have hnew := heap_alloc_new w.drew (.cells (Builtin.zeroCells #[Value.slice none 0 0] n ++ Builtin.zeroCells #[Value.slice none 0 0] (grownCap w n 0 25 - n)) 25)
    have hbel : Below w.heap.size w (w.drew.alloc (.cells (Builtin.zeroCells #[Value.slice none 0 0] n ++ Builtin.zeroCells #[Value.slice none 0 0] (grownCap w n 0 25 - n)) 25)) := (below_drewN (Below.refl w.heap.size w) 1).alloc (Nat.le_refl _) _
    generalize Builtin.zeroCells #[Value.slice none 0 0] n ++ Builtin.zeroCells #[Value.slice none 0 0] (grownCap w n 0 25 - n) = C at *
    generalize grownCap w n 0 25 = cap at *
    have hown : (w.drew.alloc (.cells C 25)).ownsRow w.heap.size 25 1 (.slice (some ⟨w.heap.size, 0, none⟩) 0 cap) 0 [] := ⟨rfl, .inr ⟨w.heap.size, cap, C, rfl, Nat.le_refl _, hnew, Nat.zero_le _, hcm, by omega, by simp⟩⟩
    generalize w.drew.alloc (.cells C 25) = W at *
    have hcm' : cap ≤ 9223372036854775807 := by unfold maxLen at hcm; exact hcm
    have hcg' : (n : Int) ≤ (cap : Int) := by omega
    have HR := Lib.hid hr
    have HO := Lib.hid hown
    have HB := Lib.hid hbel
    clear hr hown hbel hnew hsz hcm
    go_enter Try.func98, Try.ntmps98
    go_wp2_with ((with_reducible refine wpList_sel 22 ?_); refine wpList_val rfl (r_app2 (.tmp 20) (.tmp 21) 22 3 rfl rfl rfl HR.out) ?_)
    go_ret
    exact ⟨_, cap, rfl, HO.out, HB.out⟩
/-- a slice whose elements (of one cell each) are these values -/
def SlV (w : World) (v : Value) (xs : List Value) : Prop := Sl w v xs ∧ ∀ y ∈ xs, y.oneCell' = true
theorem SlV.below {w w' : World} {v : Value} {xs : List Value} (h : SlV w v xs) (hb : Below w.heap.size w w') : SlV w' v xs := ⟨h.1.below hb, h.2⟩
/-- the first k lists one after the other -/
def catV (xs : List (List Value)) (k : Nat) : List Value := (xs.take k).flatten
theorem catV_succ (xs : List (List Value)) {k : Nat} (hk : k < xs.length) : catV xs (k + 1) = catV xs k ++ xs.getD k [] := by
  unfold catV
  rw [List.take_succ_eq_append_getElem hk, List.flatten_append]
  simp [List.getD_eq_getElem?_getD, hk]
theorem catV_mono (xs : List (List Value)) {k m : Nat} (h : k ≤ m) (hm : m ≤ xs.length) : (catV xs k).length ≤ (catV xs m).length := by
  obtain ⟨d, rfl⟩ := Nat.exists_eq_add_of_le h
  clear h
  induction d with
  | zero => exact Nat.le_refl _
  | succ d ih =>
    have := ih (by omega)
    rw [← Nat.add_assoc, catV_succ xs (by omega), List.length_append]
    omega
set_option maxRecDepth 100000 in
set_option maxHeartbeats 1000000 in
theorem concat90_any (w : World) (v : Value) (xs : List (List Value)) (h : LAt SlV [] w v xs) (hl : (catV xs xs.length).length ≤ 1000000) : Calls Try.prog 90 #[v] w (ValsPost w.heap.size (catV xs xs.length) w) := by
  obtain ⟨A0, c0, rfl, hc1, hc2, hc⟩ := h.open_
  have HC := Lib.hid hc
  clear hc h
  have hx0 : (0 : Int) ≤ (xs.length : Int) := Int.natCast_nonneg _
  go_enter Try.func90, Try.ntmps90
  go_wp2_with fail
  go_loop [3, 11] (fun so i => ∃ k n : Nat, i = .int .i64 k ∧ k ≤ xs.length ∧ so = .int .i64 n ∧ Hid (n = (catV xs k).length)) (fun _ i => xs.length - (intOf i).toNat)
  case atStart => exact ⟨0, 0, rfl, by omega, rfl, Lib.hid rfl⟩
  case round =>
    obtain ⟨k, n, rfl, hk, rfl, HN⟩ := hrel
    have hk0 : (0 : Int) ≤ (k : Int) := Int.natCast_nonneg _
    have hn0 : (0 : Int) ≤ (n : Int) := Int.natCast_nonneg _
    by_cases hlt : k < xs.length
    · have hlt' : (k : Int) < (xs.length : Int) := by omega
      obtain ⟨b, o, rfl, hcc⟩ := HC.out (by omega)
      obtain ⟨u, hu, hI⟩ := hcc k hlt
      obtain ⟨A5, q, c5, rfl, h1, h2, h3, -⟩ := hI.1
      have hst := catV_succ xs hlt
      have hmo := catV_mono xs (k := k + 1) (m := xs.length) (by omega) (by omega)
      have hb : (n : Int) + (q : Int) ≤ 1000000 := by have := HN.out; rw [hst, List.length_append] at hmo; omega
      have HN2 : Hid (n + q = (catV xs (k + 1)).length) := Lib.hid (by rw [hst, List.length_append, HN.out, h1])
      clear hcc hI hst hmo h1
      unfold maxLen at h3
      have hq0 : (0 : Int) ≤ (q : Int) := Int.natCast_nonneg _
      go_wp2_with fail
      go_round
      case rel => exact ⟨k + 1, n + q, by go_num, by omega, by go_num, HN2⟩
      case measure => simp [intOf]; omega
    · obtain rfl : k = xs.length := by omega
      have HG := Lib.hid (grow98_any w n (by have := HN.out; omega))
      go_wp2_with (go_at_call 98; (refine HG.out.mono ?_); rintro e w1 ⟨A1, c1, rfl, ho, hb⟩; have HO := Lib.hid ho; have HB := Lib.hid hb; clear ho hb)
      go_loopw [6, 27] (fun so i wr => ∃ k n : Nat, i = .int .i64 k ∧ k ≤ xs.length ∧ Hid (n = (catV xs k).length) ∧ ∃ A c, so = .slice A n c ∧ Hid (wr.ownsRow w.heap.size 25 1 so n (catV xs k) ∧ Below w.heap.size w wr)) (fun _ i _ => xs.length - (intOf i).toNat)
      case atStart => exact ⟨0, 0, rfl, by omega, Lib.hid rfl, _, _, rfl, Lib.hid ⟨HO.out, HB.out⟩⟩
      case round =>
        clear HO HB HG HN hn0 hk0
        obtain ⟨k, n, rfl, hk, HN, A, c, rfl, HS⟩ := hrel
        have hk0 : (0 : Int) ≤ (k : Int) := Int.natCast_nonneg _
        by_cases hlt : k < xs.length
        · have hlt' : (k : Int) < (xs.length : Int) := by omega
          obtain ⟨b, o, rfl, hcc⟩ := HC.out (by omega)
          obtain ⟨u, hu, hI⟩ := hcc k hlt
          have hu' := (HS.out.2.cell (p := ⟨b, o + k, none⟩) (World.block_lt_of_cell? w _ hu)).trans hu
          have hmo := catV_mono xs (k := k + 1) (m := xs.length) (by omega) (by omega)
          have hst := catV_succ xs hlt
          have hnl := HN.out
          rw [hst, List.length_append] at hmo
          obtain ⟨A', c', w', hr, ho, hg, -⟩ := run_app (ty := 22) Try.underlying22 info24p rfl (by omega) wr w.heap.size (.slice A n c) n (catV xs k) HS.out.1 u (xs.getD k []) (hI.1.below HS.out.2) hI.2 (by omega) (by omega) HS.out.2.size
          rw [← hst] at ho
          have HR := Lib.hid hr
          have HN2 : Hid (n + (xs.getD k []).length = (catV xs (k + 1)).length) := Lib.hid (by rw [hst, List.length_append, HN.out])
          have HS2 : Hid (w'.ownsRow w.heap.size 25 1 (.slice A' (n + (xs.getD k []).length) c') (n + (xs.getD k []).length) (catV xs (k + 1)) ∧ Below w.heap.size w w') := Lib.hid ⟨ho, HS.out.2.grown hg HS.out.2.size (fun r hr => (owns_block HS.out.1 r hr).1)⟩
          clear hcc hu hI hmo hst hr ho hg hnl
          generalize (xs.getD k []).length = q at *
          go_wp2_with ((with_reducible refine wpList_sel 33 ?_); refine wpList_val rfl (r_app (.tmp 31) (.tmp 32) 22 rfl rfl rfl HR.out) ?_)
          go_roundw
          case rel => exact ⟨k + 1, _, by go_num, by omega, HN2, _, _, rfl, HS2⟩
          case measure => simp [intOf]; omega
        · obtain rfl : k = xs.length := by omega
          go_wp2_with fail
          go_ret
          exact ⟨A, c, by rw [← HN.out]; rfl, by rw [← HN.out]; exact HS.out.1, HS.out.2⟩
end Go.Proofs
namespace Go.Proofs
open Go.RowKit Go.Shelf Go.Proofs.Sm
/-- the first c rows of m', then those of m -/
def mixA (m m' : Mat) (c : Nat) : Mat := m'.take c ++ m.drop c
theorem mixA_zero (m m' : Mat) : mixA m m' 0 = m := by simp [mixA]
theorem mixA_full {m m' : Mat} {c : Nat} (h : m.length ≤ c) (h2 : m'.length ≤ c) : mixA m m' c = m' := by simp [mixA, List.drop_eq_nil_of_le h, List.take_of_length_le h2]
theorem mixA_length {m m' : Mat} (h : m'.length = m.length) (c : Nat) : (mixA m m' c).length = m.length := by simp [mixA]; omega
theorem mixA_getD {m m' : Mat} (h : m'.length = m.length) (c i : Nat) : (mixA m m' c).getD i [] = if i < c then m'.getD i [] else m.getD i [] := by
  simp only [mixA, List.getD_eq_getElem?_getD, List.getElem?_append, List.getElem?_take, List.getElem?_drop, List.length_take]
  rcases Nat.lt_or_ge i m'.length with h1 | h1
  · by_cases h2 : i < c
    · rw [if_pos (by omega), if_pos h2, if_pos h2]
    · rw [if_neg (by omega), if_neg h2, show c + (i - min c m'.length) = i by omega]
  · rw [if_neg (by omega), List.getElem?_eq_none (by omega : m.length ≤ c + (i - min c m'.length)), List.getElem?_eq_none h1, List.getElem?_eq_none (by omega : m.length ≤ i)]
    split <;> rfl
theorem mixA_set {m m' : Mat} (h : m'.length = m.length) {c : Nat} {z : List Int} (hz : z = m'.getD c []) : (mixA m m' c).set c z = mixA m m' (c + 1) := by
  refine getD_ext (d := []) (by rw [List.length_set, mixA_length h, mixA_length h]) fun i hi => ?_
  rw [List.length_set, mixA_length h] at hi
  rw [getD_set_, mixA_getD h, mixA_getD h, mixA_length h]
  by_cases e : c = i
  · subst e; rw [if_pos ⟨rfl, by omega⟩, if_pos (by omega), hz]
  · rw [if_neg (fun hh => e hh.1)]
    by_cases e2 : i < c
    · rw [if_pos e2, if_pos (by omega)]
    · rw [if_neg e2, if_neg (by omega)]
theorem mixA_ent {m m' : Mat} (h : m'.length = m.length) (c j : Nat) : ent (mixA m m' c) c j = ent m c j := by
  unfold ent; rw [mixA_getD h, if_neg (by omega)]
theorem mixA_rect {m m' : Mat} {r n : Nat} (h : Rect m r n) (h' : Rect m' r n) (c : Nat) : Rect (mixA m m' c) r n :=
  rect_of (by rw [mixA_length (by rw [h.1, h'.1]), h.1]) fun i hi => by
    rw [mixA_getD (by rw [h.1, h'.1])]
    split
    · exact rect_row h' hi
    · exact rect_row h hi
/-- a and v with the first q of their rows, a's ahead of v's, as in s' -/
def twoTo (s s' : S) (r q : Nat) : S := { s with a := mixA s.a s'.a q, v := mixA s.v s'.v (q - r) }
/-- matrix and row of the q-th row -/
def ofTwo (r q : Nat) : Nat × Nat := if q < r then (0, q) else (2, q - r)
theorem ofTwo_lt (r q : Nat) : (ofTwo r q).1 < 3 := by unfold ofTwo; split <;> simp
section
variable {s s' : S} {r n q : Nat}
theorem twoTo_zero (s s' : S) (r : Nat) : twoTo s s' r 0 = s := by simp [twoTo, mixA_zero]
theorem twoTo_full (h : Shape r n s) (h' : Shape r n s') (hu : s'.u = s.u) (ht : s'.t = s.t) : twoTo s s' r (r + n) = s' := by
  unfold twoTo
  rw [mixA_full (by rw [h.ra.1]; omega) (by rw [h'.ra.1]; omega), mixA_full (by rw [h.rv.1]; omega) (by rw [h'.rv.1]; omega), ← hu, ← ht]
theorem twoTo_len (h : Shape r n s) (h' : Shape r n s') (hq : q < r + n) : ((twoTo s s' r q).mat (ofTwo r q).1).length = (if q < r then r else n) ∧ (ofTwo r q).2 < (if q < r then r else n) := by
  unfold ofTwo
  split
  · exact ⟨(mixA_rect h.ra h'.ra q).1, by assumption⟩
  · exact ⟨(mixA_rect h.rv h'.rv (q - r)).1, by omega⟩
theorem twoTo_row (h : Shape r n s) (h' : Shape r n s') (hq : q < r + n) : (((twoTo s s' r q).mat (ofTwo r q).1).getD (ofTwo r q).2 []).length = n := by
  unfold ofTwo
  split
  · exact rect_row (mixA_rect h.ra h'.ra q) (by assumption)
  · exact rect_row (mixA_rect h.rv h'.rv (q - r)) (by omega)
theorem twoTo_ent (h : Shape r n s) (h' : Shape r n s') (j : Nat) : ent ((twoTo s s' r q).mat (ofTwo r q).1) (ofTwo r q).2 j = ent (s.mat (ofTwo r q).1) (ofTwo r q).2 j := by
  unfold ofTwo
  split
  · exact mixA_ent (by rw [h.ra.1, h'.ra.1]) q j
  · exact mixA_ent (by rw [h.rv.1, h'.rv.1]) (q - r) j
theorem twoTo_mat (h : Shape r n s) (h' : Shape r n s') : ((twoTo s s' r q).mat (ofTwo r q).1).getD (ofTwo r q).2 [] = (s.mat (ofTwo r q).1).getD (ofTwo r q).2 [] := by
  unfold ofTwo
  split
  · exact (mixA_getD (by rw [h.ra.1, h'.ra.1]) q q).trans (if_neg (by omega))
  · exact (mixA_getD (by rw [h.rv.1, h'.rv.1]) (q - r) (q - r)).trans (if_neg (by omega))
/-- the q-th row is written whole -/
theorem twoTo_set (h : Shape r n s) (h' : Shape r n s') {z : List Int} (hz : z = (s'.mat (ofTwo r q).1).getD (ofTwo r q).2 []) : (twoTo s s' r q).setMat (ofTwo r q).1 (((twoTo s s' r q).mat (ofTwo r q).1).set (ofTwo r q).2 z) = twoTo s s' r (q + 1) := by
  unfold ofTwo at *
  by_cases e : q < r
  · rw [if_pos e] at hz ⊢
    have h1 := mixA_set (m := s.a) (m' := s'.a) (c := q) (by rw [h.ra.1, h'.ra.1]) hz
    show S.mk ((mixA s.a s'.a q).set q z) s.u (mixA s.v s'.v (q - r)) s.t = S.mk (mixA s.a s'.a (q + 1)) s.u (mixA s.v s'.v (q + 1 - r)) s.t
    rw [h1, show q - r = 0 by omega, show q + 1 - r = 0 by omega]
  · rw [if_neg e] at hz ⊢
    have h1 := mixA_set (m := s.v) (m' := s'.v) (c := q - r) (by rw [h.rv.1, h'.rv.1]) hz
    show S.mk (mixA s.a s'.a q) s.u ((mixA s.v s'.v (q - r)).set (q - r) z) s.t = S.mk (mixA s.a s'.a (q + 1)) s.u (mixA s.v s'.v (q + 1 - r)) s.t
    rw [h1, show q + 1 - r = q - r + 1 by omega, mixA_full (m := s.a) (by rw [h.ra.1]; omega) (by rw [h'.ra.1]; omega), mixA_full (m := s.a) (by rw [h.ra.1]; omega) (by rw [h'.ra.1]; omega)]
end
/-- the rows of matrix k as values -/
def rowsV (s : S) (bl cs : Nat → Nat → Nat) (k : Nat) : List Value := (List.range (s.mat k).length).map fun i => .slice (some ⟨bl k i, 0, none⟩) ((s.mat k).getD i []).length (cs k i)
theorem rowsV_length (s : S) (bl cs : Nat → Nat → Nat) (k : Nat) : (rowsV s bl cs k).length = (s.mat k).length := by simp [rowsV]
section
variable {T b base : Nat} {w w' : World} {s : S} {x : Value} {vs : Nat → Value} {bl cs : Nat → Nat → Nat}
theorem WkM.slv (h : WkM T b base w s x vs bl cs) {k : Nat} (hk : k < 3) : SlV w (vs k) (rowsV s bl cs k) := ⟨sl_of_owns (h.out k hk), fun y hy => by
  simp only [rowsV, List.mem_map] at hy
  obtain ⟨i, -, rfl⟩ := hy
  rfl⟩
theorem owns_cells {base e n : Nat} {v : Value} {xs : List Value} (h : w.ownsRow base e 1 v n xs) (hn : 0 < n) : ∃ g c, v = .slice (some ⟨g, 0, none⟩) n c ∧ base ≤ g ∧ ∀ i, i < n → w.cell? ⟨g, i, none⟩ = xs[i]? := by
  obtain ⟨hl, ho⟩ := h
  rcases ho with ⟨-, h0⟩ | ⟨g, cap, cur, e, hb, hC, h1, hm, hs, ht⟩
  · omega
  · refine ⟨g, cap, e, hb, fun i hi => ?_⟩
    rw [cell_of_row _ _ _ _ _ _ hC, ← ht, List.getElem?_take, if_pos (by omega)]
    simp
theorem owns_other {base e n : Nat} (he : e ≠ 3) {v : Value} {xs : List Value} (h : w.ownsRow base e 1 v n xs) {b' k : Nat} {D : Array Value} {u : Value} (hb : w.heap[b']? = some (.cells D 3 (0, 0))) : (w.setCell ⟨b', k, none⟩ u).ownsRow base e 1 v n xs :=
  owns_keep h fun r hr => Below.heap_setCell w ⟨b', k, none⟩ u r fun e2 => by
    obtain ⟨-, C, hC⟩ := owns_block h r hr
    have e3 : r = b' := e2
    rw [e3, hb] at hC
    injection hC with h5
    injection h5 with _ h6 _
    exact he h6.symm
theorem rowsV_two {r n : Nat} (hs : Shape r n s) {q : Nat} (hq : q < r + n) : (rowsV s bl cs 0 ++ rowsV s bl cs 2)[q]? = some (.slice (some ⟨bl (ofTwo r q).1 (ofTwo r q).2, 0, none⟩) n (cs (ofTwo r q).1 (ofTwo r q).2)) := by
  unfold ofTwo
  have e0 : (s.mat 0).length = r := hs.ra.1
  have e2 : (s.mat 2).length = n := hs.rv.1
  split
  · rename_i h
    have h1 : ((s.mat 0).getD q []).length = n := rect_row hs.ra h
    rw [List.getElem?_append_left (by rw [rowsV_length, e0]; exact h)]
    simp only [rowsV, List.getElem?_map, e0, List.getElem?_range h, Option.map_some, h1]
  · rename_i h
    have h1 : ((s.mat 2).getD (q - r) []).length = n := rect_row hs.rv (by omega)
    rw [List.getElem?_append_right (by rw [rowsV_length, e0]; omega), rowsV_length, e0]
    simp only [rowsV, List.getElem?_map, e2, List.getElem?_range (show q - r < n by omega), Option.map_some, h1]
/-- slices.Concat of a and v -/
theorem cat_two {r n B : Nat} (hr : r ≤ 100000) (hn : n ≤ 100000) (hs : Shape r n s) (h : WkM T b base w s x vs bl cs) (hb : Below w.heap.size w w') (hB : w'.heap[B]? = some (.cells #[vs 0, vs 2] 22 (0, 0))) :
    Calls Try.prog 90 #[.slice (some ⟨B, 0, none⟩) 2 2] w' (ValsPost w'.heap.size (rowsV s bl cs 0 ++ rowsV s bl cs 2) w') := by
  have hcat := concat90_any w' (.slice (some ⟨B, 0, none⟩) 2 2) [rowsV s bl cs 0, rowsV s bl cs 2]
    ⟨[vs 0, vs 2], ⟨_, 2, 2, rfl, rfl, Nat.le_refl _, by simp [maxLen], fun _ => ⟨B, 0, rfl, fun j z hz => by
      rw [cell_of_row _ _ _ _ _ _ hB, Nat.zero_add]
      simpa using hz⟩⟩, rfl, fun i hi => by
      have h2 : i = 0 ∨ i = 1 := by simp at hi; omega
      rcases h2 with rfl | rfl
      · exact ⟨vs 0, rfl, (h.slv (by omega)).below hb⟩
      · exact ⟨vs 2, rfl, (h.slv (by omega)).below hb⟩⟩
    (by simp [catV, rowsV_length, show (s.mat 0).length = r from hs.ra.1, show (s.mat 2).length = n from hs.rv.1]; omega)
  have e : catV [rowsV s bl cs 0, rowsV s bl cs 2] ([rowsV s bl cs 0, rowsV s bl cs 2] : List (List Value)).length = rowsV s bl cs 0 ++ rowsV s bl cs 2 := by simp [catV]
  rw [e] at hcat
  exact hcat
theorem cat_two_len {r n : Nat} (hs : Shape r n s) : (rowsV s bl cs 0 ++ rowsV s bl cs 2).length = r + n := by
  rw [List.length_append, rowsV_length, rowsV_length, show (s.mat 0).length = r from hs.ra.1, show (s.mat 2).length = n from hs.rv.1]
end
theorem owns_at {w : World} {base e n g c : Nat} {xs : List Value} (h : w.ownsRow base e 1 (.slice (some ⟨g, 0, none⟩) n c) n xs) {i : Nat} (hi : i < n) : w.cell? ⟨g, i, none⟩ = xs[i]? := by
  obtain ⟨g', c', e, -, hc⟩ := owns_cells h (by omega)
  obtain rfl : g = g' := by injection e with e1; injection e1 with e2; injection e2
  exact hc i hi
theorem heap_alloc_one (w : World) (o o' : Obj) : ((w.alloc o).alloc o').drew.heap[w.heap.size]? = some o :=
  ((Below.refl (w.heap.size + 1) (w.alloc o)).alloc (by simp) o').drew.block w.heap.size (by omega) |>.trans (heap_alloc_new w o)
/-- column k, x times, may be added to column j -/
def FitC (m : Mat) (j k : Nat) (x : Int) : Prop := ∀ i, In64 (ent m i j) ∧ In64 (ent m i k) ∧ In64 (x * ent m i k) ∧ In64 (ent m i j + x * ent m i k)
theorem addC_row {m : Mat} (j k : Nat) (x : Int) (i : Nat) : (Sm.addC m j k x).getD i [] = (m.getD i []).set j (ent m i j + x * ent m i k) := by
  unfold Sm.addC ent
  rw [getD_map_ (d := []) (h := by simp)]
theorem addC_mat (s : S) (j k : Nat) (x : Int) {c : Nat} (hc : c = 0 ∨ c = 2) : (s.addC j k x).mat c = Sm.addC (s.mat c) j k x := by
  rcases hc with rfl | rfl <;> rfl
theorem ofTwo_or (r q : Nat) : (ofTwo r q).1 = 0 ∨ (ofTwo r q).1 = 2 := by unfold ofTwo; split <;> simp
set_option maxRecDepth 100000 in
set_option maxHeartbeats 1000000 in
theorem cadd126_any (base b j k r n : Nat) (q : Int) (w : World) (s : S) (x : Value) (hs : Shape r n s) (hj : j < n) (hk : k < n) (hr : r ≤ 100000) (hn : n ≤ 100000) (hS : Wk 66 b base w s x) (hbw : base ≤ w.heap.size) (hfa : FitC s.a j k q) (hfv : FitC s.v j k q) :
    Calls Try.prog 126 #[.agg #[.pointer (some ⟨b, 0, none⟩)], .int .i64 (j : Int), .int .i64 (k : Int), .int .i64 q] w fun e w' => e = .returned (.tuple #[]) ∧ Wk 66 b base w' (s.addC j k q) x ∧ Ch base w w' := by
  obtain ⟨vs, bl, cs, hM⟩ := hS
  obtain ⟨c0, c1, c2, c3, c4⟩ := hM.cells
  have hbl := hM.lt
  obtain ⟨A0, d0, hv0, -, -⟩ := hM.form (k := 0) (by omega)
  obtain ⟨A2, d2, hv2, -, -⟩ := hM.form (k := 2) (by omega)
  rw [show (s.mat 0).length = r from hs.ra.1] at hv0
  rw [show (s.mat 2).length = n from hs.rv.1] at hv2
  rw [hv0] at c0
  rw [hv2] at c2
  obtain ⟨N, hN⟩ : ∃ N, N = r + n := ⟨_, rfl⟩
  have HCAT : Hid (∀ w' B, Below w.heap.size w w' → w'.heap[B]? = some (.cells #[.slice A0 r d0, .slice A2 n d2] 22 (0, 0)) → Calls Try.prog 90 #[.slice (some ⟨B, 0, none⟩) 2 2] w' fun e w'' => ∃ A c, e = .returned (.slice A N c) ∧ w''.ownsRow w'.heap.size 25 1 (.slice A N c) N (rowsV s bl cs 0 ++ rowsV s bl cs 2) ∧ Below w'.heap.size w' w'') :=
    Lib.hid fun w' B hb hB => (cat_two hr hn hs hM hb (by rw [hv0, hv2]; exact hB)).mono fun e w'' ⟨A, c, h1, h2, h3⟩ => ⟨A, c, by rw [h1, cat_two_len hs, hN], by rw [cat_two_len hs, ← hN] at h2; exact h2, h3⟩
  have HN := Lib.hid hN
  have hN0 : 0 < N := by omega
  clear hN
  have HM := Lib.hid hM
  have HS := Lib.hid hs
  have HS' := Lib.hid (hs.addC j k q)
  have HF : Hid (∀ c, c = 0 ∨ c = 2 → FitC (s.mat c) j k q) := Lib.hid fun c hc => by
    rcases hc with rfl | rfl
    · exact hfa
    · exact hfv
  clear hM hs hfa hfv c1 c3 hv0 hv2
  have hk0 : (0 : Int) ≤ (k : Int) := Int.natCast_nonneg _
  have hj0 : (0 : Int) ≤ (j : Int) := Int.natCast_nonneg _
  have hkn : (k : Int) < (n : Int) := by omega
  have hjn : (j : Int) < (n : Int) := by omega
  go_enter Try.func126, Try.ntmps126
  go_wp2_with fail
  go_region_held3 (fun w' => w'.cell? ⟨w.heap.size, 0, none⟩ = some (.pointer (some ⟨b, 0, none⟩)) ∧ w'.cell? ⟨b, 0, none⟩ = some (.slice A0 r d0) ∧ w'.cell? ⟨b, 2, none⟩ = some (.slice A2 n d2)) (first | (with_reducible exact HS1.out) | go_keep)
    ((go_at_call 90; (refine (HCAT.out _ _ (below_two _ _ _) (heap_alloc_two _ _ _)).mono ?_); rintro e w1 ⟨A, c, rfl, ho, hb⟩; have HO := Lib.hid ho; have HS1 : Hid (w1.cell? ⟨w.heap.size, 0, none⟩ = some (.pointer (some ⟨b, 0, none⟩)) ∧ w1.cell? ⟨b, 0, none⟩ = some (.slice A0 r d0) ∧ w1.cell? ⟨b, 2, none⟩ = some (.slice A2 n d2)) := Lib.hid ⟨(hb.cell (p := ⟨w.heap.size, 0, none⟩) (by simp; omega)).trans (by rw [cell_of_row _ _ _ _ _ _ (heap_alloc_one _ _ _)]; rfl), ((below_two _ _ _).trans (hb.mono (below_two _ _ _).size)).cell (p := ⟨b, 0, none⟩) hbl |>.trans c0, ((below_two _ _ _).trans (hb.mono (below_two _ _ _).size)).cell (p := ⟨b, 2, none⟩) hbl |>.trans c2⟩; have HB := Lib.hid ((below_two _ _ _).trans (hb.mono (below_two _ _ _).size)); clear ho hb))
  obtain ⟨g, c', e, -, -⟩ := owns_cells HO.out hN0
  obtain rfl : c = c' := by injection e
  obtain rfl : A = some ⟨g, 0, none⟩ := by injection e
  clear e
  have hz1 := HB.out.size
  go_wp2_with fail
  go_loopw [23] (fun z wr => ∃ p : Nat, p ≤ N ∧ z = .int .i64 p ∧ Hid (WkM 66 b base wr (twoTo s (s.addC j k q) r p) x vs bl cs ∧ wr.ownsRow base 25 1 (.slice (some ⟨g, 0, none⟩) N c) N (rowsV s bl cs 0 ++ rowsV s bl cs 2) ∧ Ch base w wr)) (fun z _ => N - (intOf z).toNat)
  case atStart => exact ⟨0, by omega, rfl, Lib.hid ⟨by rw [twoTo_zero]; exact HM.out.below HB.out, owns_base HO.out (Nat.le_trans hbw (below_two _ _ _).size), Ch.of_below hbw HB.out⟩⟩
  case round =>
    obtain ⟨p, hp, rfl, HQ⟩ := hrel
    have hp0 : (0 : Int) ≤ (p : Int) := Int.natCast_nonneg _
    by_cases hlt : p < N
    · have hlt' : (p : Int) < (N : Int) := by omega
      have hpr : p < r + n := by have := HN.out; omega
      have hcell := owns_at HQ.out.2.1 hlt
      rw [rowsV_two HS.out hpr] at hcell
      have hl1 := twoTo_len HS.out HS'.out hpr
      have hl2 := twoTo_row HS.out HS'.out hpr
      have hkk := ofTwo_lt r p
      have hor := ofTwo_or r p
      have hpl : (ofTwo r p).2 < ((twoTo s (s.addC j k q) r p).mat (ofTwo r p).1).length := by rw [hl1.1]; exact hl1.2
      obtain ⟨q1, q2⟩ := HQ.out.1.ent_at (k := (ofTwo r p).1) (i := (ofTwo r p).2) (j := j) hkk hpl (by rw [hl2]; exact hj)
      obtain ⟨q3, -⟩ := HQ.out.1.ent_at (k := (ofTwo r p).1) (i := (ofTwo r p).2) (j := k) hkk hpl (by rw [hl2]; exact hk)
      rw [twoTo_ent HS.out HS'.out] at q1 q3
      obtain ⟨f1, f2, f3, f4⟩ := HF.out _ hor (ofTwo r p).2
      have hset := HQ.out.1.set (k := (ofTwo r p).1) (i := (ofTwo r p).2) (j := j) hkk hpl (by rw [hl2]; exact hj) (ent (s.mat (ofTwo r p).1) (ofTwo r p).2 j + q * ent (s.mat (ofTwo r p).1) (ofTwo r p).2 k)
      have hrow : ((twoTo s (s.addC j k q) r p).mat (ofTwo r p).1).getD (ofTwo r p).2 [] = (s.mat (ofTwo r p).1).getD (ofTwo r p).2 [] := twoTo_mat HS.out HS'.out
      rw [show put ((twoTo s (s.addC j k q) r p).mat (ofTwo r p).1) (ofTwo r p).2 j (ent (s.mat (ofTwo r p).1) (ofTwo r p).2 j + q * ent (s.mat (ofTwo r p).1) (ofTwo r p).2 k) = ((twoTo s (s.addC j k q) r p).mat (ofTwo r p).1).set (ofTwo r p).2 (((s.mat (ofTwo r p).1).getD (ofTwo r p).2 []).set j (ent (s.mat (ofTwo r p).1) (ofTwo r p).2 j + q * ent (s.mat (ofTwo r p).1) (ofTwo r p).2 k)) by unfold put; rw [hrow], twoTo_set HS.out HS'.out (by rw [addC_mat s j k q hor, addC_row])] at hset
      obtain ⟨D, hD⟩ := HQ.out.1.row_ty hkk hpl
      obtain ⟨hb1, -, hcs⟩ := HQ.out.1.row _ _ hkk hpl
      rw [hl2] at hcs
      obtain ⟨hcs1, hcs2⟩ := hcs
      have hown := owns_other (by decide) HQ.out.2.1 hD (k := j) (u := .int .i64 (ent (s.mat (ofTwo r p).1) (ofTwo r p).2 j + q * ent (s.mat (ofTwo r p).1) (ofTwo r p).2 k))
      have hbel := HQ.out.2.2.setCell hb1 hD (.inl rfl) j (.int .i64 (ent (s.mat (ofTwo r p).1) (ofTwo r p).2 j + q * ent (s.mat (ofTwo r p).1) (ofTwo r p).2 k))
      have HNX := Lib.hid (And.intro hset (And.intro hown hbel))
      clear hset hown hbel hrow hl1 hl2 hpl hor hkk hD hb1
      generalize ent (s.mat (ofTwo r p).1) (ofTwo r p).2 j = z at *
      generalize ent (s.mat (ofTwo r p).1) (ofTwo r p).2 k = y at *
      generalize bl (ofTwo r p).1 (ofTwo r p).2 = B1 at *
      generalize cs (ofTwo r p).1 (ofTwo r p).2 = C1 at *
      obtain ⟨f1a, f1b⟩ := f1
      obtain ⟨f2a, f2b⟩ := f2
      obtain ⟨f3a, f3b⟩ := f3
      obtain ⟨f4a, f4b⟩ := f4
      clear hN0 hz1
      go_wp2_with fail
      go_region
      go_wp2_with fail
      go_roundw
      case rel => exact ⟨p + 1, by omega, by go_num, Lib.hid ⟨HNX.out.1.drewN 1, owns_keep HNX.out.2.1 (fun _ _ => rfl), HNX.out.2.2.drew⟩⟩
      case measure => simp [intOf]; omega
    · obtain rfl : p = N := by omega
      go_wp2_with fail
      go_end0
      exact ⟨rfl, ⟨vs, bl, cs, by have := HQ.out.1; rw [HN.out, twoTo_full HS.out HS'.out rfl rfl] at this; exact this⟩, HQ.out.2.2⟩
end Go.Proofs
namespace Go.Proofs
open Go.RowKit Go.Shelf Go.Proofs.Sm
theorem swC_row {m : Mat} (j k : Nat) (i : Nat) : (Sm.swC m j k).getD i [] = ((m.getD i []).set j (ent m i k)).set k (ent m i j) := by
  unfold Sm.swC ent
  rw [getD_map_ (d := []) (h := by simp)]
theorem swC_mat (s : S) (j k : Nat) {c : Nat} (hc : c = 0 ∨ c = 2) : (s.swC j k).mat c = Sm.swC (s.mat c) j k := by
  rcases hc with rfl | rfl <;> rfl
theorem put_put (m : Mat) (i j k : Nat) (y z : Int) : put (put m i j y) i k z = m.set i (((m.getD i []).set j y).set k z) := by
  unfold put
  rw [getD_set_, List.set_set]
  by_cases h : i < m.length
  · rw [if_pos ⟨rfl, h⟩]
  · rw [List.set_eq_of_length_le (by omega), List.set_eq_of_length_le (by omega)]
set_option maxRecDepth 100000 in
set_option maxHeartbeats 1000000 in
theorem cswap72_any (base b j k r n : Nat) (w : World) (s : S) (x : Value) (hs : Shape r n s) (hj : j < n) (hk : k < n) (hr : r ≤ 100000) (hn : n ≤ 100000) (hS : Wk 66 b base w s x) (hbw : base ≤ w.heap.size) :
    Calls Try.prog 72 #[.agg #[.pointer (some ⟨b, 0, none⟩)], .int .i64 (j : Int), .int .i64 (k : Int)] w fun e w' => e = .returned (.tuple #[]) ∧ Wk 66 b base w' (s.swC j k) x ∧ Ch base w w' := by
  obtain ⟨vs, bl, cs, hM⟩ := hS
  obtain ⟨c0, c1, c2, c3, c4⟩ := hM.cells
  have hbl := hM.lt
  obtain ⟨A0, d0, hv0, -, -⟩ := hM.form (k := 0) (by omega)
  obtain ⟨A2, d2, hv2, -, -⟩ := hM.form (k := 2) (by omega)
  rw [show (s.mat 0).length = r from hs.ra.1] at hv0
  rw [show (s.mat 2).length = n from hs.rv.1] at hv2
  rw [hv0] at c0
  rw [hv2] at c2
  obtain ⟨N, hN⟩ : ∃ N, N = r + n := ⟨_, rfl⟩
  have HCAT : Hid (∀ w' B, Below w.heap.size w w' → w'.heap[B]? = some (.cells #[.slice A0 r d0, .slice A2 n d2] 22 (0, 0)) → Calls Try.prog 90 #[.slice (some ⟨B, 0, none⟩) 2 2] w' fun e w'' => ∃ A c, e = .returned (.slice A N c) ∧ w''.ownsRow w'.heap.size 25 1 (.slice A N c) N (rowsV s bl cs 0 ++ rowsV s bl cs 2) ∧ Below w'.heap.size w' w'') :=
    Lib.hid fun w' B hb hB => (cat_two hr hn hs hM hb (by rw [hv0, hv2]; exact hB)).mono fun e w'' ⟨A, c, h1, h2, h3⟩ => ⟨A, c, by rw [h1, cat_two_len hs, hN], by rw [cat_two_len hs, ← hN] at h2; exact h2, h3⟩
  have HN := Lib.hid hN
  have hN0 : 0 < N := by omega
  clear hN
  have HM := Lib.hid hM
  have HS := Lib.hid hs
  have HS' := Lib.hid (hs.swC j k)
  clear hM hs c1 c3 hv0 hv2
  have hk0 : (0 : Int) ≤ (k : Int) := Int.natCast_nonneg _
  have hj0 : (0 : Int) ≤ (j : Int) := Int.natCast_nonneg _
  have hkn : (k : Int) < (n : Int) := by omega
  have hjn : (j : Int) < (n : Int) := by omega
  go_enter Try.func72, Try.ntmps72
  go_wp2_with fail
  go_region_held3 (fun w' => w'.cell? ⟨w.heap.size, 0, none⟩ = some (.pointer (some ⟨b, 0, none⟩)) ∧ w'.cell? ⟨b, 0, none⟩ = some (.slice A0 r d0) ∧ w'.cell? ⟨b, 2, none⟩ = some (.slice A2 n d2)) (first | (with_reducible exact HS1.out) | go_keep)
    ((go_at_call 90; (refine (HCAT.out _ _ (below_two _ _ _) (heap_alloc_two _ _ _)).mono ?_); rintro e w1 ⟨A, c, rfl, ho, hb⟩; have HO := Lib.hid ho; have HS1 : Hid (w1.cell? ⟨w.heap.size, 0, none⟩ = some (.pointer (some ⟨b, 0, none⟩)) ∧ w1.cell? ⟨b, 0, none⟩ = some (.slice A0 r d0) ∧ w1.cell? ⟨b, 2, none⟩ = some (.slice A2 n d2)) := Lib.hid ⟨(hb.cell (p := ⟨w.heap.size, 0, none⟩) (by simp; omega)).trans (by rw [cell_of_row _ _ _ _ _ _ (heap_alloc_one _ _ _)]; rfl), ((below_two _ _ _).trans (hb.mono (below_two _ _ _).size)).cell (p := ⟨b, 0, none⟩) hbl |>.trans c0, ((below_two _ _ _).trans (hb.mono (below_two _ _ _).size)).cell (p := ⟨b, 2, none⟩) hbl |>.trans c2⟩; have HB := Lib.hid ((below_two _ _ _).trans (hb.mono (below_two _ _ _).size)); clear ho hb))
  obtain ⟨g, c', e, -, -⟩ := owns_cells HO.out hN0
  obtain rfl : c = c' := by injection e
  obtain rfl : A = some ⟨g, 0, none⟩ := by injection e
  clear e
  have hz1 := HB.out.size
  go_wp2_with fail
  go_loopw [21] (fun z wr => ∃ p : Nat, p ≤ N ∧ z = .int .i64 p ∧ Hid (WkM 66 b base wr (twoTo s (s.swC j k) r p) x vs bl cs ∧ wr.ownsRow base 25 1 (.slice (some ⟨g, 0, none⟩) N c) N (rowsV s bl cs 0 ++ rowsV s bl cs 2) ∧ Ch base w wr)) (fun z _ => N - (intOf z).toNat)
  case atStart => exact ⟨0, by omega, rfl, Lib.hid ⟨by rw [twoTo_zero]; exact HM.out.below HB.out, owns_base HO.out (Nat.le_trans hbw (below_two _ _ _).size), Ch.of_below hbw HB.out⟩⟩
  case round =>
    obtain ⟨p, hp, rfl, HQ⟩ := hrel
    have hp0 : (0 : Int) ≤ (p : Int) := Int.natCast_nonneg _
    by_cases hlt : p < N
    · have hlt' : (p : Int) < (N : Int) := by omega
      have hpr : p < r + n := by have := HN.out; omega
      have hcell := owns_at HQ.out.2.1 hlt
      rw [rowsV_two HS.out hpr] at hcell
      have hl1 := twoTo_len HS.out HS'.out hpr
      have hl2 := twoTo_row HS.out HS'.out hpr
      have hkk := ofTwo_lt r p
      have hor := ofTwo_or r p
      have hpl : (ofTwo r p).2 < ((twoTo s (s.swC j k) r p).mat (ofTwo r p).1).length := by rw [hl1.1]; exact hl1.2
      obtain ⟨q1, q2⟩ := HQ.out.1.ent_at (k := (ofTwo r p).1) (i := (ofTwo r p).2) (j := j) hkk hpl (by rw [hl2]; exact hj)
      obtain ⟨q3, -⟩ := HQ.out.1.ent_at (k := (ofTwo r p).1) (i := (ofTwo r p).2) (j := k) hkk hpl (by rw [hl2]; exact hk)
      rw [twoTo_ent HS.out HS'.out] at q1 q3
      have hset1 := HQ.out.1.set (k := (ofTwo r p).1) (i := (ofTwo r p).2) (j := j) hkk hpl (by rw [hl2]; exact hj) (ent (s.mat (ofTwo r p).1) (ofTwo r p).2 k)
      have hm1 : ((twoTo s (s.swC j k) r p).setMat (ofTwo r p).1 (put ((twoTo s (s.swC j k) r p).mat (ofTwo r p).1) (ofTwo r p).2 j (ent (s.mat (ofTwo r p).1) (ofTwo r p).2 k))).mat (ofTwo r p).1 = put ((twoTo s (s.swC j k) r p).mat (ofTwo r p).1) (ofTwo r p).2 j (ent (s.mat (ofTwo r p).1) (ofTwo r p).2 k) := mat_set_self _ _ _
      have hset := hset1.set (k := (ofTwo r p).1) (i := (ofTwo r p).2) (j := k) hkk (by rw [hm1, length_put]; exact hpl) (by rw [hm1, rowlen_put, hl2]; exact hk) (ent (s.mat (ofTwo r p).1) (ofTwo r p).2 j)
      rw [hm1, setMat_setMat, put_put] at hset
      have hrow : ((twoTo s (s.swC j k) r p).mat (ofTwo r p).1).getD (ofTwo r p).2 [] = (s.mat (ofTwo r p).1).getD (ofTwo r p).2 [] := twoTo_mat HS.out HS'.out
      rw [hrow, twoTo_set HS.out HS'.out (by rw [swC_mat s j k hor, swC_row])] at hset
      obtain ⟨D, hD⟩ := HQ.out.1.row_ty hkk hpl
      obtain ⟨hb1, -, hcs⟩ := HQ.out.1.row _ _ hkk hpl
      rw [hl2] at hcs
      obtain ⟨hcs1, hcs2⟩ := hcs
      have hD2 : ∃ D2, (wr.setCell ⟨bl (ofTwo r p).1 (ofTwo r p).2, j, none⟩ (.int .i64 (ent (s.mat (ofTwo r p).1) (ofTwo r p).2 k))).heap[bl (ofTwo r p).1 (ofTwo r p).2]? = some (.cells D2 3 (0, 0)) := hset1.row_ty hkk (by rw [hm1, length_put]; exact hpl)
      obtain ⟨D2, hD2⟩ := hD2
      have hown := owns_other (by decide) (owns_other (by decide) HQ.out.2.1 hD (k := j) (u := .int .i64 (ent (s.mat (ofTwo r p).1) (ofTwo r p).2 k))) hD2 (k := k) (u := .int .i64 (ent (s.mat (ofTwo r p).1) (ofTwo r p).2 j))
      have hbel := (HQ.out.2.2.setCell hb1 hD (.inl rfl) j (.int .i64 (ent (s.mat (ofTwo r p).1) (ofTwo r p).2 k))).setCell hb1 hD2 (.inl rfl) k (.int .i64 (ent (s.mat (ofTwo r p).1) (ofTwo r p).2 j))
      have HNX := Lib.hid (And.intro hset (And.intro hown hbel))
      obtain ⟨-, q4⟩ := HQ.out.1.ent_at (k := (ofTwo r p).1) (i := (ofTwo r p).2) (j := k) hkk hpl (by rw [hl2]; exact hk)
      clear hset hset1 hm1 hown hbel hrow hl1 hl2 hpl hor hkk hD hD2 hb1
      generalize ent (s.mat (ofTwo r p).1) (ofTwo r p).2 j = z at *
      generalize ent (s.mat (ofTwo r p).1) (ofTwo r p).2 k = y at *
      generalize bl (ofTwo r p).1 (ofTwo r p).2 = B1 at *
      generalize cs (ofTwo r p).1 (ofTwo r p).2 = C1 at *
      clear hN0 hz1
      by_cases hjk : j = k
      · subst hjk
        obtain rfl : z = y := by rw [q1] at q3; injection q3 with e1; injection e1
        clear q3
        go_wp2_with fail
        go_region
        go_wp2_with fail
        go_roundw
        case rel => exact ⟨p + 1, by omega, by go_num, Lib.hid ⟨HNX.out.1.drewN 1, owns_keep HNX.out.2.1 (fun _ _ => rfl), HNX.out.2.2.drew⟩⟩
        case measure => simp [intOf]; omega
      · have hkj : k ≠ j := fun e => hjk e.symm
        go_wp2_with fail
        go_region
        go_wp2_with fail
        go_roundw
        case rel => exact ⟨p + 1, by omega, by go_num, Lib.hid ⟨HNX.out.1.drewN 1, owns_keep HNX.out.2.1 (fun _ _ => rfl), HNX.out.2.2.drew⟩⟩
        case measure => simp [intOf]; omega
    · obtain rfl : p = N := by omega
      go_wp2_with fail
      go_end0
      exact ⟨rfl, ⟨vs, bl, cs, by have := HQ.out.1; rw [HN.out, twoTo_full HS.out HS'.out rfl rfl] at this; exact this⟩, HQ.out.2.2⟩
/-- the rows of the first c of the matrices a, u change places -/
def swTo (s : S) (i k : Nat) : Nat → S
  | 0 => s
  | 1 => s.setMat 0 (Sm.swR s.a i k)
  | _ => s.swR i k
theorem swTo_succ (s : S) (i k : Nat) {c : Nat} (hc : c < 2) : (swTo s i k c).setMat c (Sm.swR (s.mat c) i k) = swTo s i k (c + 1) := by
  obtain rfl | rfl : c = 0 ∨ c = 1 := by omega
  all_goals rfl
theorem swTo_mat (s : S) (i k : Nat) {c : Nat} (hc : c < 2) : (swTo s i k c).mat c = s.mat c := by
  obtain rfl | rfl : c = 0 ∨ c = 1 := by omega
  all_goals rfl
theorem lit25_keep {w : World} {B : Nat} {C : Array Value} {b' k : Nat} {D : Array Value} {v : Value} (h : w.heap[B]? = some (.cells C 22 (0, 0))) (hb : w.heap[b']? = some (.cells D 25 (0, 0))) : (w.setCell ⟨b', k, none⟩ v).heap[B]? = some (.cells C 22 (0, 0)) := by
  rw [Below.heap_setCell w ⟨b', k, none⟩ v B fun e => ?_]
  · exact h
  · have e' : B = b' := e
    rw [e', hb] at h
    cases h
theorem box_set {w : World} {b : Nat} {C : Array Value} {T : TypeId} (hb : w.heap[b]? = some (.cells C T (0, 0))) (k : Nat) (v : Value) : (w.setCell ⟨b, k, none⟩ v).heap[b]? = some (.cells (C.setIfInBounds k v) T (0, 0)) := by
  simp [World.setCell, Array.getElem?_modify, hb]
set_option maxRecDepth 100000 in
set_option maxHeartbeats 1000000 in
theorem rswap71_any (base b i k r n : Nat) (w : World) (s : S) (x : Value) (hs : Shape r n s) (hi : i < r) (hk : k < r) (hS : Wk 66 b base w s x) (hbw : base ≤ w.heap.size) :
    Calls Try.prog 71 #[.agg #[.pointer (some ⟨b, 0, none⟩)], .int .i64 (i : Int), .int .i64 (k : Int)] w fun e w' => e = .returned (.tuple #[]) ∧ Wk 66 b base w' (s.swR i k) x ∧ Ch base w w' := by
  obtain ⟨vs, bl, cs, hM⟩ := hS
  obtain ⟨c0, c1, c2, c3, c4⟩ := hM.cells
  have hbl := hM.lt
  obtain ⟨A0, d0, hv0, -, -⟩ := hM.form (k := 0) (by omega)
  obtain ⟨A1, d1, hv1, -, -⟩ := hM.form (k := 1) (by omega)
  rw [show (s.mat 0).length = r from hs.ra.1] at hv0
  rw [show (s.mat 1).length = r from hs.ru.1] at hv1
  rw [hv0] at c0
  rw [hv1] at c1
  have HV0 := Lib.hid hv0
  have HV1 := Lib.hid hv1
  have HM := Lib.hid hM
  have HS := Lib.hid hs
  clear hM hs c2 c3 hv0 hv1
  have hk0 : (0 : Int) ≤ (k : Int) := Int.natCast_nonneg _
  have hi0 : (0 : Int) ≤ (i : Int) := Int.natCast_nonneg _
  go_enter Try.func71, Try.ntmps71
  go_wp2_with fail
  go_region
  go_wp2_with fail
  go_loopw [20] (fun z wr => ∃ c : Nat, c ≤ 2 ∧ z = .int .i64 c ∧ Hid ((∃ bl cs, WkM 66 b base wr (swTo s i k c) x vs bl cs) ∧ wr.heap[w.heap.size + 1]? = some (.cells #[vs 0, vs 1] 22 (0, 0)) ∧ Ch base w wr)) (fun z _ => 2 - (intOf z).toNat)
  case atStart => exact ⟨0, by omega, rfl, Lib.hid ⟨⟨bl, cs, HM.out.below (below_two _ _ _)⟩, by rw [HV0.out, HV1.out]; exact heap_alloc_two _ _ _, Ch.of_below hbw (below_two _ _ _)⟩⟩
  case round =>
    obtain ⟨c, hc, rfl, HR⟩ := hrel
    have hcc0 : (0 : Int) ≤ (c : Int) := Int.natCast_nonneg _
    by_cases hlt : c < 2
    · have hlt' : (c : Int) < 2 := by omega
      obtain ⟨L, hR⟩ : ∃ L, Rect (s.mat c) r L := by
        obtain rfl | rfl : c = 0 ∨ c = 1 := by omega
        · exact ⟨n, HS.out.ra⟩
        · exact ⟨r, HS.out.ru⟩
      obtain ⟨⟨bl', cs', hW⟩, hlb, hbel⟩ := HR.out
      have hlen : ((swTo s i k c).mat c).length = r := by rw [swTo_mat s i k hlt]; exact hR.1
      have hrl : ∀ p, p < r → (((swTo s i k c).mat c).getD p []).length = L := fun p hp => by rw [swTo_mat s i k hlt]; exact rect_row hR hp
      obtain ⟨g, d, hv, hg1, hg2, hbg⟩ := hW.row_at (k := c) (i := i) (by omega) (by rw [hlen]; exact hi)
      rw [hrl i hi] at hg1
      rw [hlen] at hv
      obtain ⟨g', d', hv', hg3, hg4, -⟩ := hW.row_at (k := c) (i := k) (by omega) (by rw [hlen]; exact hk)
      rw [hrl k hk] at hg3
      rw [hlen, hv] at hv'
      obtain rfl : g = g' := by injection hv' with e1; injection e1 with e2; injection e2
      have hlit : wr.cell? ⟨w.heap.size + 1, c, none⟩ = some (.slice (some ⟨g, 0, none⟩) r d) := by
        rw [cell_of_row _ _ _ _ _ _ hlb]
        obtain rfl | rfl : c = 0 ∨ c = 1 := by omega
        · rw [← hv]; rfl
        · rw [← hv]; rfl
      have hsw := hW.swap (k := c) (i := i) (j := k) (g := g) (by omega) (by rw [hlen]; exact hi) (by rw [hlen]; exact hk) (by rw [hv]; rfl)
      rw [hrl i hi, hrl k hk, swTo_mat s i k hlt, swTo_succ s i k hlt] at hsw
      obtain ⟨-, D, hD⟩ := owns_block (hW.out c (by omega)) g (by rw [hv]; rfl)
      have hlk := lit25_keep (k := k) (v := .slice (some ⟨bl' c i, 0, none⟩) L (cs' c i)) (lit25_keep (k := i) (v := .slice (some ⟨bl' c k, 0, none⟩) L (cs' c k)) hlb hD) (box_set hD i _)
      have hbl2 := (hbel.setCell hbg hD (.inr (.inl rfl)) i (.slice (some ⟨bl' c k, 0, none⟩) L (cs' c k))).setCell hbg (box_set hD i _) (.inr (.inl rfl)) k (.slice (some ⟨bl' c i, 0, none⟩) L (cs' c i))
      have HN := Lib.hid (And.intro hsw (And.intro hlk hbl2))
      clear hsw hlk hbl2 hlen hrl hv hv' hR hD hlb hbel hW
      have hkr : (k : Int) < (r : Int) := by omega
      have hir : (i : Int) < (r : Int) := by omega
      by_cases hik : i = k
      · subst hik
        clear hg3 hg4
        go_wp2_with fail
        go_region
        go_wp2_with fail
        go_roundw
        case rel => exact ⟨c + 1, by omega, by go_num, Lib.hid ⟨⟨_, _, HN.out.1.drewN 1⟩, HN.out.2.1, HN.out.2.2.drew⟩⟩
        case measure => simp [intOf]; omega
      · have hki : k ≠ i := fun e => hik e.symm
        go_wp2_with fail
        go_region
        go_wp2_with fail
        go_roundw
        case rel => exact ⟨c + 1, by omega, by go_num, Lib.hid ⟨⟨_, _, HN.out.1.drewN 1⟩, HN.out.2.1, HN.out.2.2.drew⟩⟩
        case measure => simp [intOf]; omega
    · obtain rfl : c = 2 := by omega
      obtain ⟨⟨bl', cs', hW⟩, -, hbel⟩ := HR.out
      have HW := Lib.hid hW
      have HBL := Lib.hid hbel
      clear hW hbel
      go_wp2_with fail
      go_end0
      exact ⟨rfl, ⟨vs, bl', cs', HW.out⟩, HBL.out⟩
end Go.Proofs
