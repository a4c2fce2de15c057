/- prime.Factors; slices.SortFunc at pairs, by smith.ascending: what it leaves; slices.SortFunc at pairs, whole; smith.Powers; Plain facts for the reference's Is, Factors, sort and Join; The reference's Factors. -/
import Derived.Test.YthfachbkcmifbaaGreatGrCS17
import Derived.Test.YthfachbkcmifbaaGreatGrCS8
namespace Go.Proofs
open Go.RowKit Go.Shelf Go.Proofs.Sm
attribute [local simp, local go_sem] wide_fn wide_depth
attribute [local go_sem] Oper.semAt_some
theorem factors64_any (w : World) (x : Int) : Calls Tryz.prog 46 #[.int .i64 x] w fun e w' => e = .returned (.func (.func 62) #[] #[.pointer (some ⟨w.heap.size, 0, none⟩)]) ∧ w' = w.alloc (.cells #[.int .i64 x] 3) := by
  go_enter Tryz.func46, Tryz.ntmps46
  go_wp2_with fail
  go_ret
  exact ⟨rfl, rfl⟩
/-- the factors, at most as many as n has bits: m * 2 ^ k ≤ n behind k of them -/
theorem factF_len2 : ∀ {f n k : Nat}, 1 ≤ n → n < 2 ^ (k + 1) → (factF n f).length ≤ k
  | 0, _, _, _, _ => Nat.zero_le _
  | f + 1, n, k, h0, h => by
    unfold factF
    by_cases h1 : 1 < n
    · rw [if_pos h1]
      obtain ⟨hp, hd⟩ := divN_spec (n := n) (by omega)
      obtain ⟨j, a, b, c, d⟩ := stripF_spec hp.1 (f := n) (n := n) (k := 0) (by omega) (Nat.le_refl _)
      have h2 := strip_lt2 h1
      have hj : 1 ≤ j := by have := h2.2.2; omega
      have h3 : 2 ≤ divN n ^ j := Nat.le_trans hp.1 (by
        have := Nat.pow_le_pow_right (show 0 < divN n by have := hp.1; omega) hj
        rwa [Nat.pow_one] at this)
      have h4 := Nat.mul_le_mul_left (stripF (divN n) n 0 n).1 h3
      rw [← b] at h4
      cases k with
      | zero => simp at h; omega
      | succ k =>
        have h5 : (stripF (divN n) n 0 n).1 < 2 ^ (k + 1) := by
          rw [Nat.pow_succ] at h
          omega
        have := factF_len2 (f := f) h2.2.1 h5
        simp only [List.length_cons]
        omega
    · rw [if_neg h1]
      exact Nat.zero_le _
theorem factN_len {n : Nat} (h : n ≤ 1000000000) : (factN n).length ≤ 29 := by
  rcases Nat.eq_zero_or_pos n with h0 | h0
  · subst h0
    exact Nat.zero_le _
  · exact factF_len2 h0 (Nat.lt_of_le_of_lt h (by decide))
/-- the list of the factors under way -/
structure FaSt (w : World) (B : Nat) (X : List Pr) (W : World) : Prop where
  below : Below w.heap.size w W
  out : ∃ A c, W.heap[w.heap.size]? = some (.cells #[.slice A X.length c] 26 (0, 0)) ∧ OwnP B W (.slice A X.length c) X
theorem FaSt.below' {w W W' : World} {B : Nat} {X : List Pr} (h : FaSt w B X W) (hb : Below W.heap.size W W') : FaSt w B X W' :=
  ⟨h.below.trans (hb.mono h.below.size), let ⟨A, c, h1, h2⟩ := h.out; ⟨A, c, (hb.block _ (Array.getElem?_eq_some_iff.1 h1).1).trans h1, owns_below h2 hb⟩⟩
theorem FaSt.other {w W W' : World} {B : Nat} {X : List Pr} (h : FaSt w B X W) (l : Nat) (h1 : w.heap.size < l) (he : W'.os = W.os ∧ W'.tape = W.tape ∧ W'.output = W.output ∧ W.heap.size ≤ W'.heap.size)
    (hk : ∀ k, k ≠ l → W'.heap[k]? = W.heap[k]?) (hl : l < B ∨ ∃ o : Obj, W.heap[l]? = some o ∧ o.isCells = false) : FaSt w B X W' := by
  refine ⟨h.below.trans ⟨he.1, he.2.1, he.2.2.1, he.2.2.2, fun k hk' => hk k (by omega)⟩, ?_⟩
  obtain ⟨A, c, h2, h3⟩ := h.out
  refine ⟨A, c, (hk _ (by omega)).trans h2, owns_keep h3 fun r hr => hk r fun e => ?_⟩
  obtain ⟨h4, C, h5⟩ := h3.block r hr
  rcases hl with hl | ⟨o, h6, h7⟩
  · omega
  · rw [e, h6] at h5; cases h5; cases h7
theorem FaSt.push {w W : World} {B : Nat} {X : List Pr} (h : FaSt w B X W) (hB : w.heap.size + 1 ≤ B) (hBW : B ≤ W.heap.size) (hX : X.length ≤ 1000000) (p : Pr) : ∃ A c A' c' W', W.cell? ⟨w.heap.size, 0, none⟩ = some (.slice A X.length c) ∧
    (Builtin.append_ #[26, 26] 26 #[.slice A X.length c, .slice (some ⟨W.heap.size, 0, none⟩) 1 1]).run Tryz.prog (W.alloc (.cells #[.int .i64 p.1, .int .i64 p.2] 38)) = .ok (.slice A' (X.length + 1) c') W' ∧
    (W'.cell? ⟨w.heap.size, 0, none⟩ = some (.slice A X.length c) ∧ W'.frozen? ⟨w.heap.size, 0, none⟩ = false) ∧
    Turned w.heap.size B W (W'.setCell ⟨w.heap.size, 0, none⟩ (.slice A' (X.length + 1) c')) ∧ FaSt w B (X ++ [p]) (W'.setCell ⟨w.heap.size, 0, none⟩ (.slice A' (X.length + 1) c')) := by
  obtain ⟨A, c, h1, h2⟩ := h.out
  obtain ⟨A', c', W', hr, ho, hg, hw⟩ := push_pr h2 p (by omega) hBW
  have hrow : ∀ r, (Value.slice A X.length c).ownBlock = some r → B ≤ r ∧ ∃ o : Obj, W.heap[r]? = some o ∧ o.isCells = true := fun r hr => by
    obtain ⟨h4, C, h5⟩ := h2.block r hr
    exact ⟨h4, _, h5, rfl⟩
  have hne : ∀ k, k < W.heap.size → k < B → W'.heap[k]? = W.heap[k]? := fun k hk hkB => hg.block k hk fun e => by have := (hrow k e.symm).1; omega
  have hwl := h.below.size
  have h1lt := (Array.getElem?_eq_some_iff.1 h1).1
  have h1' := (hne _ h1lt (by omega)).trans h1
  have hset : ∀ k, k ≠ w.heap.size → (W'.setCell ⟨w.heap.size, 0, none⟩ (.slice A' (X.length + 1) c')).heap[k]? = W'.heap[k]? := fun k hk => Below.heap_setCell W' ⟨w.heap.size, 0, none⟩ _ k hk
  refine ⟨A, c, A', c', W', (cell_of1 h1).1, hr, cell_of1 h1', (Turned.grown hg hrow).trans (Turned.set _), ?_, A', c', ?_, ?_⟩
  · have hsz := hg.size
    exact h.below.trans ⟨hg.os, hg.tape, hg.output, by simpa [World.setCell] using hsz, fun k hk => (hset k (by omega)).trans (hne k (by omega) (by omega))⟩
  · simp [World.setCell, Array.getElem?_modify, h1']
  · rw [List.length_append]
    refine owns_keep ho fun r hr' => hset r fun e => ?_
    obtain ⟨h4, C, h5⟩ := OwnP.block ho r hr'
    omega
theorem take_getD2 (L : List Pr) {k : Nat} (h : k < L.length) : L.take k ++ [L.getD k (0, 0)] = L.take (k + 1) := by
  rw [List.take_succ_eq_append_getElem h, List.getD_eq_getElem?_getD, List.getElem?_eq_getElem h]; rfl
/-- the activation at a round's body -/
def bare45 (b : Nat) (x : Int) (fv : Value) (p k : Int) : Act :=
  { tmps := #[.int .i64 x, undef, .slice none 0 0, .int .i64 0, .pointer (some ⟨b, 0, none⟩), .int .i64 p, .int .i64 k, .int .i64 x, .bool false, .bool false, .int .i64 x, .bool false, .bool false, .int .i64 x, fv, .int .i64 p, .int .i64 k, undef, undef, undef, undef, undef, undef, undef], defers := [] }
def FacsPost (L : List Pr) (w : World) (e : Ending) (w' : World) : Prop := ∃ A c, e = .returned (.tuple #[.slice A L.length c, .int .i64 0]) ∧ OwnP w.heap.size w' (.slice A L.length c) L ∧ Below w.heap.size w w'
set_option maxRecDepth 100000 in
set_option maxHeartbeats 4000000 in
theorem factors45_in (n : Nat) (w : World) (m : Nat) (h1 : 1 ≤ m) (h2 : m ≤ 1000000000) : CallsIn Fence.wide n Tryz.prog 21 #[.int .i64 (m : Int)] w (FacsPost (factN m) w) := by
  have hlen := factN_len h2
  have hd1 : ¬ (m : Int) < 1 := by omega
  have hd2 : ¬ (1000000000 : Int) < (m : Int) := by omega
  obtain ⟨L, hL⟩ : ∃ L, L = factN m := ⟨_, rfl⟩
  rw [← hL] at hlen ⊢
  have HL : Hid (factF m m = L) := Lib.hid hL.symm
  clear hL
  refine callsIn_of_wp_marks Tryz.func21 rfl trivial ?_ rfl
  simp only [Tryz.ntmps21, List.size_toArray, List.length_cons, List.length_nil, Nat.reduceAdd, Nat.reduceSub, Array.replicate_succ, Array.replicate_zero, List.push_toArray, List.append_toArray, List.nil_append, List.cons_append]
  gi_wp2_with ((refine (callsIn_wide.2 (factors64_any _ _)).mono ?_); rintro e w' ⟨rfl, rfl⟩)
  obtain ⟨W0, hW0⟩ : ∃ W0, (w.alloc (.cells #[.slice none 0 0] 26)).alloc (.cells #[.int .i64 (m : Int)] 3) = W0 := ⟨_, rfl⟩
  have hs0 : W0.heap.size = w.heap.size + 2 := by rw [← hW0]; simp
  have hb0 : Below w.heap.size w W0 := by rw [← hW0]; exact ((Below.refl _ w).alloc (Nat.le_refl _) _).alloc (by simp) _
  have ho0 : W0.heap[w.heap.size]? = some (.cells #[.slice none 0 0] 26 (0, 0)) := by rw [← hW0]; exact (Below.heap_alloc (w.alloc (.cells #[.slice none 0 0] 26)) _ _ (by simp)).trans (heap_alloc_new w _)
  have hr0 : W0.heap[w.heap.size + 1]? = some (.cells #[.int .i64 (m : Int)] 3 (0, 0)) := by rw [← hW0]; have := heap_alloc_new (w.alloc (.cells #[.slice none 0 0] 26)) (.cells #[.int .i64 (m : Int)] 3); rwa [World.size_alloc] at this
  have hst : FkSt w W0 (w.heap.size + 1) m := ⟨hb0, hr0⟩
  have hfa : FaSt w W0.heap.size [] W0 := ⟨hb0, none, 0, ho0, OwnP.nil _ _⟩
  rw [hW0]
  have HST := Lib.hid hst
  have HFA := Lib.hid hfa
  clear hW0 hb0 ho0 hr0 hst hfa
  refine wpIn_rangeWalk (gf := 62) (lb := #[.pointer (some ⟨w.heap.size + 1, 0, none⟩)]) rfl (enters_of Tryz.func62 (by kernel_rfl) rfl)
    (encs := encF L) (S := FkS w (w.heap.size + 1)) L.length w.heap.size (w.heap.size + 1) (by omega) (by omega) (fun k hk => by unfold FkS at hk; omega) (fun _ => rfl)
    (fun l J W hb hJa hJs hY h0 => walk79 (n - 1) l _ J W w m L m (HST.out.below' hb) (by omega) h2 HL.out (Nat.le_refl _) hJa hJs hY h0)
    (fun k W => FaSt w W0.heap.size (L.take k) W)
    (fun k A B h hb => h.below' hb) (fun k A v h hc => h.other (w.heap.size + 1) (by omega) ⟨rfl, rfl, rfl, by simp [World.setCell]⟩ (fun k hk => Below.heap_setCell A ⟨w.heap.size + 1, 0, none⟩ v k hk) (.inl (by omega)))
    (fun k A l o o' h hl ho hn => h.other l (by omega) ⟨rfl, rfl, rfl, by simp⟩ (fun k hk => World.putObj_heap_other hk) (.inr ⟨o, ho, hn⟩))
    HFA.out (fun k => bare45 w.heap.size m (.func (.func 62) #[] #[.pointer (some ⟨w.heap.size + 1, 0, none⟩)]) (L.getD k (0, 0)).1 (L.getD k (0, 0)).2) ?assign ?body ?done
  case assign =>
    rintro l k W K hK
    simp only [encF]
    gi_wp2_with (rw [Oper.semAt_eq _ _ _ (fun c h => by cases h)]; go_simp)
    exact hK
  case body =>
    rintro l k W hFA hk hsz
    have hlk : (L.take k).length = k := by rw [List.length_take]; omega
    obtain ⟨A, c, A', c', W3, hxc, happ, ⟨hyc, hyf⟩, htu, hrs⟩ := hFA.push (by omega) hsz (by omega) (L.getD k (0, 0))
    rw [take_getD2 L hk] at hrs
    rw [hlk] at hxc happ hyc htu hrs
    clear hlk
    have HAPP := Lib.hid happ
    have HTU := Lib.hid htu
    have HRS := Lib.hid hrs
    clear hFA happ htu hrs HL HST HFA
    generalize (L.getD k (0, 0)).1 = p at *
    generalize (L.getD k (0, 0)).2 = e at *
    simp only [bare45]
    gi_wp2_with (first
      | ((with_reducible refine wpListIn_selR 22 ?_); refine wpListIn_valR rfl (fun c h => by cases h) (r_app (.tmp 17) (.tmp 21) 26 rfl rfl rfl HAPP.out) ?_)
      | (rw [Oper.semAt_eq _ _ _ (fun c h => by cases h)]; go_simp))
    exact ⟨HTU.out, HRS.out⟩
  case done =>
    rintro D W hD hFA hDD
    rw [List.take_length] at hFA
    obtain ⟨A, c, ho, hown⟩ := hFA.out
    have hob := (cell_of1 ho).1
    have HRS := Lib.hid (And.intro hFA.below hown)
    have HDD := Lib.hid hDD
    clear hown ho hFA hDD HL HST HFA
    gi_wp2_with fail
    have hDD2 := HDD.out
    refine ⟨by simp, .inl ⟨_, _, rfl, run_takeDeferred hDD2, ?_⟩⟩
    refine ⟨_, results_tmp2 rfl _ _ _, ?_⟩
    have hkk : ∀ k, k ≠ D → (W.putObj D (.deferred none)).heap[k]? = W.heap[k]? := fun k hk => World.putObj_heap_other hk
    refine ⟨A, c, rfl, owns_base (owns_keep HRS.out.2 fun r hr' => hkk r fun e => ?_) (by omega), HRS.out.1.trans ⟨rfl, rfl, rfl, by simp, fun k hk => hkk k (by omega)⟩⟩
    obtain ⟨-, C, hC⟩ := OwnP.block HRS.out.2 r hr'
    rw [e, hDD2] at hC
    cases hC
theorem factors45_yes (w : World) (m : Nat) (h1 : 1 ≤ m) (h2 : m ≤ 1000000000) : Calls Tryz.prog 21 #[.int .i64 (m : Int)] w (FacsPost (factN m) w) := callsIn_wide.1 (factors45_in 0 w m h1 h2)
theorem factors45_no (w : World) (x : Int) (h : x < 1 ∨ 1000000000 < x) : Calls Tryz.prog 21 #[.int .i64 x] w fun e w' => e = .returned (.tuple #[.slice none 0 0, .int .i64 2]) ∧ w' = w := by
  by_cases h1 : x < 1
  · clear h
    go_enter Tryz.func21, Tryz.ntmps21
    go_wp2_with fail
    go_ret2
    exact ⟨rfl, rfl⟩
  · have h2 : (1000000000 : Int) < x := by omega
    clear h
    go_enter Tryz.func21, Tryz.ntmps21
    go_wp2_with fail
    go_ret2
    exact ⟨rfl, rfl⟩
end Go.Proofs
namespace Go.Proofs
open Go.Shelf Go.RowKit Go.Lib Go.Sort
theorem cmpI_bd (x y : Int) : -1 ≤ cmpI x y ∧ cmpI x y ≤ 1 := by unfold cmpI; split <;> (try split) <;> omega
set_option maxRecDepth 100000 in
set_option maxHeartbeats 16000000 in
theorem ascending47_any (W : World) (p q : Pr) : Calls Tryz.prog 23 #[.agg #[.int .i64 p.1, .int .i64 p.2], .agg #[.int .i64 q.1, .int .i64 q.2]] W fun e w' => e = .returned (.int .i64 (cfP p q)) ∧ Gr W w' := by
  obtain ⟨p1, p2⟩ := p
  obtain ⟨q1, q2⟩ := q
  have HC1 := Lib.hid fun W' => compare63_any W' p1 q1
  have HC2 := Lib.hid fun W' => compare63_any W' p2 q2
  have HR : Hid (cfP (p1, p2) (q1, q2) = if cmpI p1 q1 ≠ 0 then cmpI p1 q1 else cmpI p2 q2) := Lib.hid rfl
  have hb1 := cmpI_bd p1 q1
  have hb2 := cmpI_bd p2 q2
  generalize cfP (p1, p2) (q1, q2) = R at *
  generalize cmpI p1 q1 = a at *
  generalize cmpI p2 q2 = b at *
  have HOR : Hid (∀ (g : Nat) (X : World), X.heap[g]? = some (.cells #[.int .i64 a, .int .i64 b] 3 (0, 0)) → Calls Tryz.prog 49 #[.slice (some ⟨g, 0, none⟩) 2 2] X fun e w' => e = .returned (.int .i64 R) ∧ ∃ q, w' = X.drewN q) := Lib.hid fun g X hX => by
    rw [HR.out]
    exact or67_any _ _ a b (ints_two hX ⟨by omega, by omega⟩ ⟨by omega, by omega⟩)
  clear hb1 hb2
  simp only
  have HA : Hid (∀ o1 o2 : Obj, o1 = .cells #[.int .i64 p1, .int .i64 p2] 38 → o2 = .cells #[.int .i64 q1, .int .i64 q2] 38 → ((W.alloc o1).alloc o2).cell? ⟨W.heap.size, 0, none⟩ = some (.int .i64 p1) ∧ ((W.alloc o1).alloc o2).cell? ⟨W.heap.size, 1, none⟩ = some (.int .i64 p2) ∧ ((W.alloc o1).alloc o2).cell? ⟨W.heap.size + 1, 0, none⟩ = some (.int .i64 q1) ∧ ((W.alloc o1).alloc o2).cell? ⟨W.heap.size + 1, 1, none⟩ = some (.int .i64 q2) ∧ Gr W ((W.alloc o1).alloc o2)) := Lib.hid fun o1 o2 e1 e2 => by
    subst e1 e2
    have h1 : ((W.alloc (.cells #[.int .i64 p1, .int .i64 p2] 38)).alloc (.cells #[.int .i64 q1, .int .i64 q2] 38)).heap[W.heap.size]? = some (.cells #[.int .i64 p1, .int .i64 p2] 38 (0, 0)) := (Below.heap_alloc (W.alloc (.cells #[.int .i64 p1, .int .i64 p2] 38)) _ _ (by simp)).trans (heap_alloc_new W _)
    have h2 : ((W.alloc (.cells #[.int .i64 p1, .int .i64 p2] 38)).alloc (.cells #[.int .i64 q1, .int .i64 q2] 38)).heap[W.heap.size + 1]? = some (.cells #[.int .i64 q1, .int .i64 q2] 38 (0, 0)) := by
      have := heap_alloc_new (W.alloc (.cells #[.int .i64 p1, .int .i64 p2] 38)) (.cells #[.int .i64 q1, .int .i64 q2] 38)
      rwa [World.size_alloc] at this
    exact ⟨by rw [cell_of_row _ _ _ _ _ _ h1]; rfl, by rw [cell_of_row _ _ _ _ _ _ h1]; rfl, by rw [cell_of_row _ _ _ _ _ _ h2]; rfl, by rw [cell_of_row _ _ _ _ _ _ h2]; rfl, ((Gr.refl W).alloc _).alloc _⟩
  go_enter Tryz.func23, Tryz.ntmps23
  go_wp2_with fail
  obtain ⟨z1, z2, z3, z4, hG⟩ := HA.out _ _ rfl rfl
  have HG := Lib.hid hG
  clear hG HA
  generalize (W.alloc (.cells #[.int .i64 p1, .int .i64 p2] 38)).alloc (.cells #[.int .i64 q1, .int .i64 q2] 38) = W2 at *
  go_region_held3 (fun w' => w'.cell? ⟨W.heap.size, 0, none⟩ = some (.int .i64 p1) ∧ w'.cell? ⟨W.heap.size, 1, none⟩ = some (.int .i64 p2) ∧ w'.cell? ⟨W.heap.size + 1, 0, none⟩ = some (.int .i64 q1) ∧ w'.cell? ⟨W.heap.size + 1, 1, none⟩ = some (.int .i64 q2)) (first | assumption | (exact ⟨z1, z2, z3, z4⟩) | go_keep)
    (first
      | (go_at_call 43; (with_reducible refine (HC1.out _).mono ?_); rintro e w' ⟨rfl, rfl⟩)
      | (go_at_call 43; (with_reducible refine (HC2.out _).mono ?_); rintro e w' ⟨rfl, rfl⟩)
      | (go_at_call 49; (refine (HOR.out _ (W2.alloc (.cells #[.int .i64 a, .int .i64 b] 3)).drew (heap_alloc_new W2 _)).mono ?_); rintro e w' ⟨rfl, q, rfl⟩))
  all_goals
    go_wp2_with fail
    go_ret
    exact ⟨rfl, by repeat (first | exact HG.out | apply Gr.drewN | apply Gr.drew | apply Gr.alloc)⟩
theorem cmpLays47 (blk off size : Nat) (w : World) : CmpLays Tryz.prog 23 #[] pcell 2 cfP blk off size w :=
  fun _ _ _ _ x y => ascending47_any _ x y
theorem flatK_get (ps : List Pr) : flatK pcell 2 ps.toArray = (pcells ps).toArray := by
  refine ext_get! (by simp [pcells_length]) fun t ht => ?_
  have ht' : t < ps.length * 2 := by simpa using ht
  rw [get_flatK _ _ _ t (by simpa using ht')]
  have hj : t / 2 < ps.length := by omega
  obtain ⟨g1, g2⟩ := pcells_get ps (t / 2) hj
  have he : ps.toArray[t / 2]! = ps.getD (t / 2) (0, 0) := by simp [List.getD_eq_getElem?_getD, hj]
  rw [he]
  have hl : t < (pcells ps).length := by rw [pcells_length]; exact ht'
  have hr : (pcells ps).toArray[t]! = (pcells ps)[t] := by simp [hl]
  rw [hr]
  have hm : t % 2 = 0 ∨ t % 2 = 1 := by omega
  rcases hm with hm | hm
  · have : t / 2 * 2 = t := by omega
    rw [this] at g1
    rw [List.getElem?_eq_getElem hl] at g1
    rw [Option.some.inj g1, hm]
    rfl
  · have : t / 2 * 2 + 1 = t := by omega
    rw [this] at g2
    rw [List.getElem?_eq_getElem hl] at g2
    rw [Option.some.inj g2, hm]
    rfl
theorem heap_sortedW {w : World} {g n : Nat} {os : Array Obj} {cur : Array Value} {e : TypeId} {fr : Nat × Nat} (F : Array Value) (hb : w.heap[g]? = some (.cells cur e fr)) :
    (grow (putRow id (Sort.ahead w n) g 0 F) os).heap[g]? = some (.cells (putCells id 0 F cur) e fr) := by
  have hg : g < w.heap.size := (Array.getElem?_eq_some_iff.1 hb).1
  rw [heap_grow_old _ _ (by simpa using hg)]
  simp [putRow, mapBlock, Sort.ahead, Array.getElem?_modify, hb, onCells]
theorem grownBy_sortedW {w : World} {g n : Nat} {os : Array Obj} (F : Array Value) : w.grownBy (grow (putRow id (Sort.ahead w n) g 0 F) os) (some g) := by
  refine ⟨rfl, rfl, rfl, by simp, fun k hk hne => ?_⟩
  rw [heap_grow_old _ _ (by simpa using hk)]
  have : g ≠ k := fun e => hne (by rw [e])
  simp [putRow, mapBlock, Sort.ahead, Array.getElem?_modify, this]
theorem take_putCellsW (cur : Array Value) (ts : List Value) (h : ts.length ≤ cur.size) : (putCells id 0 ts.toArray cur).toList.take ts.length = ts := by
  apply List.ext_getElem?
  intro j
  by_cases hj : j < ts.length
  · rw [List.getElem?_take_of_lt hj, Array.getElem?_toList]
    simp [putCells, hj, show j < cur.size by omega]
  · rw [List.getElem?_take_eq_none (by omega), List.getElem?_eq_none (by omega)]
theorem isAgg56 (w : World) : (isAgg 38).run Tryz.prog w = .ok true w := by kernel_rfl
theorem sizeOf56 (w : World) : (Go.sizeOf 38).run Tryz.prog w = .ok 2 w := by kernel_rfl
theorem list_of_sorted {ps : List Pr} {d' : Array Pr} (hp : PermIn 0 ps.toArray.size ps.toArray d') (hs : SortedIn (ltOf cfP) 0 ps.toArray.size d') : d' = (sortP ps).toArray := by
  obtain ⟨h1, -, h3⟩ := hp
  have e1 : (d'.extract 0 ps.toArray.size).toList = d'.toList := by rw [← h1, Array.extract_size]
  have e2 : (ps.toArray.extract 0 ps.toArray.size).toList = ps := by simp
  rw [e1, e2] at h3
  have hpw : d'.toList.Pairwise fun a b => leP a b = true := by
    rw [List.pairwise_iff_getElem]
    intro i j hi hj hij
    have hi' : i < d'.size := by simpa using hi
    have hj' : j < d'.size := by simpa using hj
    have h4 := hs i j (Nat.zero_le _) hij (by rw [← h1]; exact hj')
    rw [ltP, getElem!_pos d' i hi', getElem!_pos d' j hj'] at h4
    have h5 : d'.toList[i] = d'[i] := by simp
    have h6 : d'.toList[j] = d'[j] := by simp
    rw [h5, h6]
    unfold leP
    rw [decide_eq_true_iff]
    have := of_decide_eq_false h4
    omega
  have := sortP_unique h3 hpw
  rw [← this]
def SortPost (base : Nat) (v : Value) (ps : List Pr) (w : World) (e : Ending) (w' : World) : Prop := e = .returned (.tuple #[]) ∧ OwnP base w' v (sortP ps) ∧ Below base w w'
theorem sort46_some (base : Nat) (w : World) (g cap : Nat) (ps : List Pr) (h : OwnP base w (.slice (some ⟨g, 0, none⟩) ps.length cap) ps) (hl : ps.length ≤ 1000000) : Calls Tryz.prog 22 #[.slice (some ⟨g, 0, none⟩) ps.length cap, .func (.func 23) #[] #[]] w (SortPost base (.slice (some ⟨g, 0, none⟩) ps.length cap) ps w) := by
  obtain ⟨hlen, ho⟩ := h
  rcases ho with ⟨e, -⟩ | ⟨g', cap', cur, e, hb, hC, h1, hm, hs, ht⟩
  · cases e
  · injection e with e1 e2 e3
    injection e1 with e1
    injection e1 with e1
    subst e1 e3
    have hg : g < w.heap.size := (Array.getElem?_eq_some_iff.1 hC).1
    have eg : ∀ args w, (callFunc 23 args).run Tryz.prog w = .ok (.enter 23 args) w := enters_of Tryz.func23 (by kernel_rfl) rfl
    have hH : HoldsK pcell 2 w g 0 ps.toArray := by
      unfold HoldsK
      rw [flatK_get]
      intro j hj
      have hj' : j < (pcells ps).length := by simpa using hj
      refine ⟨?_, by simp [World.frozen?, hC]⟩
      have h5 : (cur.toList.take (ps.length * 2))[j]? = (pcells ps)[j]? := by rw [ht]
      rw [List.getElem?_take, if_pos (by rw [← pcells_length]; exact hj')] at h5
      rw [Nat.zero_add, cell_of_row _ _ _ _ _ _ hC]
      have : (pcells ps).toArray[j]! = (pcells ps)[j] := by simp [hj']
      rw [this, id, ← List.getElem?_eq_getElem hj', ← h5]
      simp
    have hcon := AnyQ.slices_SortFunc Tryz.sortP 2 isAgg56 sizeOf56 pcell (fun _ => rfl) (fun x v hv => by simp [pcell] at hv; rcases hv with rfl | rfl <;> rfl) cfP swoP 23 #[] g 0 cap ps.toArray w eg (cmpLays47 g 0 ps.toArray.size w) hH hg (by simp; omega)
    have hcon2 : Calls Tryz.prog 22 #[.slice (some ⟨g, 0, none⟩) ps.length cap, .func (.func 23) #[] #[]] w _ := hcon
    refine hcon2.mono ?_
    rintro e w' ⟨rfl, d', n, os, hp, hsd, rfl⟩
    rw [list_of_sorted hp hsd]
    have hsl := sortP_length ps
    have hpl : (pcells (sortP ps)).length = ps.length * 2 := by rw [pcells_length, hsl]
    unfold sortWorldK putRowK
    rw [flatK_get]
    refine ⟨rfl, ⟨by rw [pcells_length], .inr ⟨g, cap, _, by rw [hsl], hb, heap_sortedW _ hC, by rw [hsl]; exact h1, hm, by simp [putCells, hs], ?_⟩⟩, ?_⟩
    · rw [hsl, ← hpl]
      exact take_putCellsW cur _ (by rw [hpl, hs]; omega)
    · exact (Below.refl base w).grown (grownBy_sortedW _) (Nat.le_trans hb (Nat.le_of_lt hg)) fun r hr => by cases hr; exact hb
end Go.Proofs
namespace Go.Proofs
open Go.Shelf Go.RowKit Go.Lib Go.Sort
theorem insertion80_nil (w : World) (c : Nat) : Calls Tryz.prog 63 #[.slice none 0 c, .int .i64 0, .int .i64 0, .func (.func 23) #[] #[]] w fun e w' => e = .returned (.tuple #[]) ∧ ∃ q, w' = w.drewN q := by
  go_enter Tryz.func63, Tryz.ntmps63
  go_wp2_with fail
  go_loopw [8] (fun z wr => z = .int .i64 1 ∧ ∃ q, wr = w.drewN q) (fun _ _ => 0)
  case atStart => exact ⟨rfl, 0, rfl⟩
  case round =>
    obtain ⟨rfl, q, rfl⟩ := hrel
    go_wp2_with fail
    go_end0
    exact ⟨rfl, _, rfl⟩
theorem pdq65_nil (w : World) (c : Nat) : Calls Tryz.prog 47 #[.slice none 0 c, .int .i64 0, .int .i64 0, .int .i64 0, .func (.func 23) #[] #[]] w fun e w' => e = .returned (.tuple #[]) ∧ ∃ q, w' = w.drewN q := by
  have HI := Lib.hid fun W => insertion80_nil W c
  go_enter Tryz.func47, Tryz.ntmps47
  go_wp2_with fail
  go_loopw [1, 2] (fun za zb wr => za = .int .i64 0 ∧ zb = .int .i64 0 ∧ ∃ q, wr = w.drewN q) (fun _ _ _ => 0)
  case atStart => exact ⟨rfl, rfl, 0, rfl⟩
  case round =>
    obtain ⟨rfl, rfl, q, rfl⟩ := hrel
    go_wp2_with (go_at_call 63; (refine (HI.out _).mono ?_); rintro e w' ⟨rfl, q, rfl⟩)
    exact bodyPost_ret (v := .tuple #[]) (results_none rfl _ _ _) rfl ⟨rfl, by first | exact ⟨_, rfl⟩ | exact ex_drewN⟩
theorem sort46_nil (w : World) (c : Nat) : Calls Tryz.prog 22 #[.slice none 0 c, .func (.func 23) #[] #[]] w fun e w' => e = .returned (.tuple #[]) ∧ ∃ q, w' = w.drewN q := by
  have hb : Calls Tryz.prog 48 #[.int .u64 0] w fun e w' => e = .returned (.int .i64 0) ∧ w' = w := Any.bits_Len (SlLaysF0.n15.bits (P := Tryz.prog) (ρ := Tryz.sortP_ren) { Tryz.sortP with }) 0 w (by omega) (by omega)
  have HB := Lib.hid hb
  have HP := Lib.hid fun W => pdq65_nil W c
  clear hb
  go_enter Tryz.func22, Tryz.ntmps22
  go_wp2_with (first
    | (go_at_call 48; (refine HB.out.mono ?_); rintro e w' ⟨rfl, rfl⟩)
    | (go_at_call 47; (refine (HP.out _).mono ?_); rintro e w' ⟨rfl, q, rfl⟩))
  go_end0
  exact ⟨rfl, _, rfl⟩
theorem sortP_nil : sortP [] = [] := List.length_eq_zero_iff.1 (by rw [sortP_length]; rfl)
theorem sort46_any (base : Nat) (w : World) (v : Value) (ps : List Pr) (h : OwnP base w v ps) (hl : ps.length ≤ 1000000) : Calls Tryz.prog 22 #[v, .func (.func 23) #[] #[]] w (SortPost base v ps w) := by
  rcases h.2 with ⟨rfl, h0⟩ | ⟨g, cap, cur, rfl, -⟩
  · obtain rfl : ps = [] := List.length_eq_zero_iff.1 h0
    refine (sort46_nil w 0).mono fun e w' ⟨h1, q, h2⟩ => ⟨h1, ?_, by rw [h2]; exact below_drewN (Below.refl _ _) q⟩
    rw [sortP_nil]
    exact OwnP.nil _ _
  · exact sort46_some base w g cap ps h hl
end Go.Proofs
namespace Go.Proofs
open Go.RowKit Go.Shelf Go.Proofs.Sm
def facs (l : List Int) : List Pr := l.flatMap fun x => factN x.toNat
def badT (x : Int) : Bool := decide (x < 2) || decide (1000000000 < x)
def powersE (l : List Int) : List Pr × Int := if 100 < l.length then ([], 4) else if l.any badT = true then ([], 2) else (sortP (facs l), 0)
theorem facs_len {l : List Int} (h : ∀ x ∈ l, badT x = false) : (facs l).length ≤ 29 * l.length := by
  induction l with
  | nil => exact Nat.le_refl _
  | cons x l ih =>
    have h1 := h x (List.mem_cons_self ..)
    have h2 := ih fun y hy => h y (List.mem_cons_of_mem _ hy)
    have h3 : facs (x :: l) = factN x.toNat ++ facs l := rfl
    have h4 : x.toNat ≤ 1000000000 := by
      unfold badT at h1
      simp at h1
      omega
    have := factN_len h4
    rw [h3, List.length_append, List.length_cons]
    omega
theorem facs_succ {l : List Int} {k : Nat} (h : k < l.length) : facs (l.take k) ++ factN (l.getD k 0).toNat = facs (l.take (k + 1)) := by
  rw [List.take_succ_eq_append_getElem h, List.getD_eq_getElem?_getD, List.getElem?_eq_getElem h]
  unfold facs
  rw [List.flatMap_append, List.flatMap_cons, List.flatMap_nil, List.append_nil]
  rfl
theorem take_good {l : List Int} {k : Nat} (h : ∀ j, j < k → badT (l.getD j 0) = false) : ∀ x ∈ l.take k, badT x = false := fun x hx => by
  obtain ⟨j, hj, rfl⟩ := List.getElem_of_mem hx
  have hj' : j < k ∧ j < l.length := by rw [List.length_take] at hj; omega
  have := h j hj'.1
  rw [List.getD_eq_getElem?_getD, List.getElem?_eq_getElem hj'.2] at this
  rw [List.getElem_take]
  exact this
theorem good_succ {l : List Int} {k : Nat} (h : ∀ j, j < k → badT (l.getD j 0) = false) (h2 : badT (l.getD k 0) = false) : ∀ j, j < k + 1 → badT (l.getD j 0) = false := fun j hj => by
  rcases Nat.lt_or_ge j k with h3 | h3
  · exact h j h3
  · rw [show j = k by omega]; exact h2
def PowersPost (r : List Pr × Int) (w : World) (e : Ending) (w' : World) : Prop := (∃ A c, e = .returned (.tuple #[.slice A r.1.length c, .int .i64 r.2]) ∧ OwnP w.heap.size w' (.slice A r.1.length c) r.1) ∧ Below w.heap.size w w'
theorem powersE_bad {l : List Int} (h1 : ¬ 100 < l.length) {k : Nat} (hk : k < l.length) (hb : badT (l.getD k 0) = true) : powersE l = ([], 2) := by
  unfold powersE
  rw [if_neg h1, if_pos]
  rw [List.any_eq_true]
  exact ⟨l.getD k 0, by rw [List.getD_eq_getElem?_getD, List.getElem?_eq_getElem hk]; exact List.getElem_mem hk, hb⟩
theorem powersE_good {l : List Int} (h1 : ¬ 100 < l.length) (h : ∀ j, j < l.length → badT (l.getD j 0) = false) : powersE l = (sortP (facs l), 0) := by
  unfold powersE
  rw [if_neg h1, if_neg]
  rw [Bool.not_eq_true, List.any_eq_false]
  intro x hx
  have := take_good (k := l.length) h x (by rw [List.take_length]; exact hx)
  rw [this]
  decide
set_option maxRecDepth 100000 in
set_option maxHeartbeats 1000000 in
theorem powers27_any (w : World) (v : Value) (l : List Int) (h : IntsAt w v l) : Calls Tryz.prog 7 #[v] w (PowersPost (powersE l) w) := by
  have hfit := h.2
  obtain ⟨A0, c0, rfl, hc1, hc2, hcc⟩ := h.open_
  obtain ⟨R, hR⟩ : ∃ R, R = powersE l := ⟨_, rfl⟩
  rw [← hR]
  have HR := Lib.hid hR
  have HCC := Lib.hid hcc
  have HFIT := Lib.hid hfit
  clear h hR hcc hfit
  by_cases hlong : 100 < l.length
  · have HE : Hid (R = ([], 4)) := Lib.hid (by rw [HR.out]; unfold powersE; rw [if_pos hlong])
    have hd : (100 : Int) < (l.length : Int) := by omega
    go_enter Tryz.func7, Tryz.ntmps7
    go_wp2_with fail
    go_ret2
    rw [HE.out]
    exact ⟨⟨_, _, rfl, OwnP.nil _ _⟩, Below.refl _ _⟩
  · have hd : ¬ (100 : Int) < (l.length : Int) := by omega
    have hlb : (l.length : Int) ≤ 100 := by omega
    go_enter Tryz.func7, Tryz.ntmps7
    go_wp2_with fail
    go_loopw [4, 14] (fun zo zi wr => ∃ (k m : Nat) (A : Option Addr) (c : Nat), k ≤ l.length ∧ zi = .int .i64 k ∧ zo = .slice A m c ∧ Hid (OwnP w.heap.size wr (.slice A m c) (facs (l.take k)) ∧ m = (facs (l.take k)).length ∧ Below w.heap.size w wr ∧ ∀ j, j < k → badT (l.getD j 0) = false)) (fun _ zi _ => l.length - (intOf zi).toNat)
    case atStart => exact ⟨0, 0, none, 0, by omega, rfl, rfl, Lib.hid ⟨OwnP.nil _ _, rfl, Below.refl _ _, fun j hj => absurd hj (by omega)⟩⟩
    case round =>
      obtain ⟨k, m, A, c, hk, rfl, rfl, HI⟩ := hrel
      have hk0 : (0 : Int) ≤ (k : Int) := Int.natCast_nonneg _
      by_cases hkl : k < l.length
      · have hkl' : (k : Int) < (l.length : Int) := by omega
        obtain ⟨bo, oo, rfl, hcell⟩ := HCC.out (by omega)
        have hx := hcell k hkl
        have hx2 := (HI.out.2.2.1.cell (p := ⟨bo, oo + k, none⟩) (World.block_lt_of_cell? w _ hx)).trans hx
        have HBD := Lib.hid fun h => powersE_bad hlong hkl h
        have HSU := Lib.hid (facs_succ hkl)
        have HAL := Lib.hid (good_succ HI.out.2.2.2)
        clear hx hcell
        generalize l.getD k 0 = x at *
        by_cases hb : x < 1 ∨ 1000000000 < x
        · have HF := Lib.hid (factors45_no wr x hb)
          have HE : Hid (R = ([], 2)) := Lib.hid (by rw [HR.out]; exact HBD.out (by unfold badT; rcases hb with hb | hb <;> simp <;> omega))
          clear hb
          go_wp2_with (go_at_call 21; (refine HF.out.mono ?_); rintro e w1 ⟨rfl, rfl⟩)
          go_ret2
          rw [HE.out]
          exact ⟨⟨_, _, rfl, OwnP.nil _ _⟩, HI.out.2.2.1⟩
        · obtain ⟨y, rfl⟩ : ∃ y : Nat, x = (y : Int) := ⟨x.toNat, by omega⟩
          have hy1 : 1 ≤ y := by omega
          have hy2 : y ≤ 1000000000 := by omega
          have HF := Lib.hid (factors45_yes wr y hy1 hy2)
          rw [Int.toNat_natCast] at HSU
          have hlen := factN_len hy2
          clear hb
          by_cases h1 : y = 1
          · have HE : Hid (R = ([], 2)) := Lib.hid (by rw [HR.out]; exact HBD.out (by unfold badT; simp; omega))
            subst h1
            have h11 : ((1 : Nat) : Int) = 1 := rfl
            rw [h11] at hx2 HF
            clear h11
            go_wp2_with (go_at_call 21; (refine HF.out.mono ?_); rintro e w1 ⟨A2, c2, rfl, ho, hb⟩; have HO := Lib.hid (And.intro ho hb); clear ho hb)
            go_ret2
            rw [HE.out]
            exact ⟨⟨_, _, rfl, OwnP.nil _ _⟩, HI.out.2.2.1.trans (HO.out.2.mono HI.out.2.2.1.size)⟩
          · have hne : ((y : Int) == 1) = false := by simp; omega
            have HNB : Hid (badT (y : Int) = false) := Lib.hid (by unfold badT; simp; omega)
            have hfl := facs_len (take_good HI.out.2.2.2)
            have hkt : (l.take k).length ≤ 100 := by rw [List.length_take]; omega
            clear h1
            go_wp2_with (first
              | (go_at_call 21; (refine HF.out.mono ?_); rintro e w1 ⟨A2, c2, rfl, ho, hb⟩
                 obtain ⟨A', c', w', hr, ho', hg, -⟩ := run_append_prs (ps := facs (l.take k)) (qs := factN y) (base := w.heap.size) (v := .slice A m c) (.slice A2 (factN y).length c2) (owns_below HI.out.1 hb) (OwnP.prs ho) (by omega) (by omega) (Nat.le_trans HI.out.2.2.1.size hb.size)
                 have HRUN := Lib.hid hr
                 have HN : Hid (OwnP w.heap.size w' (.slice A' (facs (l.take k) ++ factN y).length c') (facs (l.take (k + 1))) ∧ (facs (l.take k) ++ factN y).length = (facs (l.take (k + 1))).length ∧ Below w.heap.size w w' ∧ ∀ j, j < k + 1 → badT (l.getD j 0) = false) := Lib.hid (by
                   refine ⟨by rw [← HSU.out]; exact ho', by rw [HSU.out], (HI.out.2.2.1.trans (hb.mono HI.out.2.2.1.size)).grown hg (Nat.le_trans HI.out.2.2.1.size hb.size) (fun r hr => (OwnP.block HI.out.1 r hr).1), HAL.out HNB.out⟩)
                 clear ho hb hr ho' hg)
              | ((with_reducible refine wpList_sel 31 ?_); refine wpList_val rfl (r_app (.tmp 29) (.tmp 30) 26 rfl rfl rfl HRUN.out) ?_))
            go_roundw
            case rel => exact ⟨k + 1, _, A', c', by omega, by go_num, rfl, Lib.hid (by have h := HN.out; rw [List.length_append] at h; exact h)⟩
            case measure => simp [intOf]; omega
      · obtain rfl : k = l.length := by omega
        have hfl := facs_len (take_good HI.out.2.2.2)
        have hkt : (l.take l.length).length ≤ 100 := by rw [List.length_take]; omega
        have HS := Lib.hid (sort46_any w.heap.size wr (.slice A m c) _ HI.out.1 (by omega))
        have HE : Hid (R = (sortP (facs l), 0)) := Lib.hid (by rw [HR.out]; exact powersE_good hlong HI.out.2.2.2)
        have HM : Hid (m = (sortP (facs l)).length) := Lib.hid (by rw [HI.out.2.1, List.take_length, sortP_length])
        clear hfl hkt
        go_wp2_with (go_at_call 22; (refine HS.out.mono ?_); rintro e w1 ⟨rfl, ho, hb⟩; have HO := Lib.hid (And.intro ho hb); clear ho hb)
        go_ret2
        have h1 := HO.out.1
        rw [List.take_length] at h1
        rw [HM.out] at h1 ⊢
        rw [HE.out]
        exact ⟨⟨A, c, rfl, h1⟩, HI.out.2.2.1.trans HO.out.2⟩
end Go.Proofs
namespace Go.Proofs
open Go.RowKit Go.Shelf Go.Proofs.Sm
theorem prm_of_sq {n : Nat} (h : 2 ≤ n) (hno : ∀ e, 2 ≤ e → e * e ≤ n → n % e ≠ 0) : Prm n := by
  rcases divF_spec (n := n) (f := n) (d := 2) (by omega) (by omega) with ⟨a, b, c, -⟩ | ⟨a, -⟩
  · exact absurd c (hno _ b a)
  · exact prm_of_divN h a
theorem isE_yes {n : Nat} (h : 2 ≤ n) (h2 : n < 1000000) (hno : ∀ e, 2 ≤ e → e * e ≤ n → n % e ≠ 0) : isE (n : Int) = true :=
  isE_iff.2 ⟨by omega, by omega, by rw [Int.toNat_natCast]; exact prm_of_sq h hno⟩
theorem sq_lt2 {d n : Nat} (hd : 2 ≤ d) (hdd : d * d ≤ n) : d < n := by
  have := Nat.mul_le_mul_left d hd
  omega
theorem isE_no {n d : Nat} (hd : 2 ≤ d) (hdd : d * d ≤ n) (hm : n % d = 0) : isE (n : Int) = false := by
  cases h : isE (n : Int) with
  | false => rfl
  | true =>
    have h2 := (isE_iff.1 h).2.2
    rw [Int.toNat_natCast] at h2
    exact absurd hm (h2.2 d hd (sq_lt2 hd hdd))
theorem isE_out {x : Int} (h : x < 2 ∨ 1000000 ≤ x) : isE x = false := by
  cases h2 : isE x with
  | false => rfl
  | true =>
    have h3 := isE_iff.1 h2
    omega
/-- no divisor below d -/
def NoD (n d : Nat) : Prop := ∀ e, 2 ≤ e → e < d → n % e ≠ 0
theorem divN_of {n d : Nat} (h : 2 ≤ d) (hm : n % d = 0) (hn : 1 ≤ n) (hno : NoD n d) : divN n = d := by
  have hdn : d ≤ n := Nat.le_of_dvd hn (Nat.dvd_of_mod_eq_zero hm)
  obtain ⟨hp, h0⟩ := divN_spec (n := n) (by omega)
  have h1 : d ≤ divN n := by
    rcases Nat.lt_or_ge (divN n) d with h1 | h1
    · exact absurd h0 (hno _ hp.1 h1)
    · exact h1
  rcases Nat.eq_or_lt_of_le h1 with h2 | h2
  · exact h2.symm
  · rcases divF_spec (n := n) (f := n) (d := 2) (by omega) (by omega) with ⟨-, -, -, e⟩ | ⟨a, -⟩
    · exact absurd hm (e d h h2)
    · have ha : divN n = n := a
      rw [ha] at hp h2
      exact absurd hm (hp.2 d h h2)
theorem factF_more : ∀ {f g n : Nat}, n ≤ f → n ≤ g → factF n f = factF n g
  | 0, 0, _, _, _ => rfl
  | 0, g + 1, n, h, _ => by
    obtain rfl : n = 0 := by omega
    rfl
  | f + 1, 0, n, _, h => by
    obtain rfl : n = 0 := by omega
    rfl
  | f + 1, g + 1, n, h, h2 => by
    unfold factF
    by_cases h1 : 1 < n
    · rw [if_pos h1, if_pos h1]
      have := strip_lt2 h1
      rw [factF_more (f := f) (g := g) (by omega) (by omega)]
    · rw [if_neg h1, if_neg h1]
theorem factN_step {n : Nat} (h : 1 < n) : factN n = (((divN n : Nat) : Int), (((stripF (divN n) n 0 n).2 : Nat) : Int)) :: factN (stripF (divN n) n 0 n).1 := by
  have h2 := strip_lt2 h
  obtain ⟨f, rfl⟩ : ∃ f, n = f + 1 := ⟨n - 1, by omega⟩
  show factF (f + 1) (f + 1) = _
  conv => lhs; unfold factF
  rw [if_pos h]
  unfold factN
  rw [factF_more (f := f) (g := (stripF (divN (f + 1)) (f + 1) 0 (f + 1)).1) (by omega) (Nat.le_refl _)]
theorem factN_one : factN 1 = [] := rfl
theorem strip_go {p n k f : Nat} (hp : 2 ≤ p) (hn : 1 ≤ n) (hf : n ≤ f) (h : n % p = 0) : ∃ f', stripF p n k f = stripF p (n / p) (k + 1) f' ∧ n / p ≤ f' ∧ 1 ≤ n / p ∧ n / p < n := by
  obtain ⟨f', rfl⟩ : ∃ f', f = f' + 1 := ⟨f - 1, by omega⟩
  have h1 := strip_lt hn hp
  refine ⟨f', ?_, by omega, strip_pos hn hp h, h1⟩
  conv => lhs; unfold stripF
  rw [if_pos h]
theorem strip_stop {p n k f : Nat} (hn : 1 ≤ n) (hf : n ≤ f) (h : n % p ≠ 0) : stripF p n k f = (n, k) := by
  obtain ⟨f', rfl⟩ : ∃ f', f = f' + 1 := ⟨f - 1, by omega⟩
  unfold stripF
  rw [if_neg h]
/-- the factors under way: n is left, divisors below d are done -/
structure FI (n0 n d : Nat) (out : List Pr) : Prop where
  pos : 1 ≤ n
  le : n ≤ n0
  two : 2 ≤ d
  no : NoD n d
  out : out ++ factN n = factN n0
theorem FI.start {n : Nat} (h : 1 ≤ n) : FI n n 2 [] := ⟨h, Nat.le_refl _, Nat.le_refl _, fun e h1 h2 => by omega, rfl⟩
theorem FI.jump {n0 n d : Nat} {out : List Pr} (h : FI n0 n d out) (h1 : 1 < n) (hd : n < d * d) : FI n0 n n out := ⟨h.pos, h.le, h1, fun e h2 h3 h4 => by
  obtain ⟨q, hq⟩ := Nat.dvd_of_mod_eq_zero h4
  have hde : d ≤ e := by
    rcases Nat.lt_or_ge e d with h5 | h5
    · exact absurd h4 (h.no e h2 h5)
    · exact h5
  have hqd : q < d := by
    rcases Nat.lt_or_ge q d with h5 | h5
    · exact h5
    · have := Nat.mul_le_mul hde h5
      omega
  have hq2 : 2 ≤ q := by
    rcases q with _ | _ | q
    · omega
    · omega
    · omega
  exact h.no q hq2 hqd (Nat.mod_eq_zero_of_dvd ⟨e, by rw [hq, Nat.mul_comm]⟩), h.out⟩
theorem FI.miss {n0 n d : Nat} {out : List Pr} (h : FI n0 n d out) (hm : n % d ≠ 0) : FI n0 n (d + 1) out := ⟨h.pos, h.le, by have := h.two; omega, fun e h1 h2 => by
  rcases Nat.eq_or_lt_of_le (Nat.le_of_lt_succ h2) with rfl | h3
  · exact hm
  · exact h.no e h1 h3, h.out⟩
theorem FI.hit {n0 n d m k : Nat} {out : List Pr} (h : FI n0 n d out) (h1 : 1 < n) (hm : n % d = 0) (hs : stripF d n 0 n = (m, k)) : FI n0 m (d + 1) (out ++ [((d : Int), (k : Int))]) ∧ 1 ≤ k ∧ m < n := by
  have hd := divN_of h.two hm h.pos h.no
  have h2 := strip_lt2 h1
  have h3 := factN_step h1
  obtain ⟨j, a, b, c, e⟩ := stripF_spec (p := d) h.two (f := n) (n := n) (k := 0) h.pos (Nat.le_refl _)
  rw [hd, hs] at h2 h3
  rw [hs] at b c
  refine ⟨⟨h2.2.1, by have := h.le; omega, by have := h.two; omega, fun x h4 h5 h6 => ?_, ?_⟩, h2.2.2, h2.1⟩
  · rcases Nat.eq_or_lt_of_le (Nat.le_of_lt_succ h5) with rfl | h7
    · exact c h6
    · refine h.no x h4 h7 (Nat.mod_eq_zero_of_dvd ?_)
      rw [b]
      exact Nat.dvd_trans (Nat.dvd_of_mod_eq_zero h6) (Nat.dvd_mul_right _ _)
  · rw [List.append_assoc, ← h.out, h3]
    rfl
theorem FI.d_le {n0 n d : Nat} {out : List Pr} (h : FI n0 n d out) (h1 : 1 < n) : d ≤ n := by
  rcases Nat.lt_or_ge n d with h2 | h2
  · exact absurd (Nat.mod_self n) (h.no n h1 h2)
  · exact h2
theorem FI.done {n0 d : Nat} {out : List Pr} (h : FI n0 1 d out) : out = factN n0 := by
  rw [← h.out, factN_one, List.append_nil]
theorem FI.len {n0 n d : Nat} {out : List Pr} (h : FI n0 n d out) (hn : n0 ≤ 1000000000) : out.length ≤ 29 := by
  have h1 := factN_len hn
  rw [← h.out, List.length_append] at h1
  omega
/-- places a and b of the first i are in order -/
def SrtTo (L : List Pr) (i : Nat) : Prop := ∀ a b, a < b → b < i → leP (L.getD a (0, 0)) (L.getD b (0, 0)) = true
/-- but for place k, that may belong further ahead -/
def InsTo (L : List Pr) (i k : Nat) : Prop := ∀ a b, a < b → b ≤ i → b ≠ k → leP (L.getD a (0, 0)) (L.getD b (0, 0)) = true
def swapL (L : List Pr) (k : Nat) : List Pr := (L.set k (L.getD (k - 1) (0, 0))).set (k - 1) (L.getD k (0, 0))
theorem SrtTo.ins {L : List Pr} {i : Nat} (h : SrtTo L i) : InsTo L i i := fun a b h1 h2 h3 => h a b h1 (by omega)
theorem leP_of_not {p q : Pr} (h : ¬ (p.1 < q.1 ∨ p.1 = q.1 ∧ p.2 < q.2)) : leP q p = true := by
  unfold leP; simp; omega
theorem leP_of {p q : Pr} (h : p.1 < q.1 ∨ p.1 = q.1 ∧ p.2 < q.2) : leP p q = true := by
  unfold leP; simp; omega
theorem InsTo.stop {L : List Pr} {i k : Nat} (h : InsTo L i k) (hs : k = 0 ∨ leP (L.getD (k - 1) (0, 0)) (L.getD k (0, 0)) = true) : SrtTo L (i + 1) := fun a b h1 h2 => by
  by_cases hb : b = k
  · subst hb
    rcases hs with hs | hs
    · omega
    · rcases Nat.lt_or_ge a (b - 1) with h3 | h3
      · exact leP_trans _ _ _ (h a (b - 1) h3 (by omega) (by omega)) hs
      · rw [show a = b - 1 by omega]
        exact hs
  · exact h a b h1 (by omega) hb
theorem swapL_length (L : List Pr) (k : Nat) : (swapL L k).length = L.length := by simp [swapL]
theorem swapL_get {L : List Pr} {k : Nat} (h0 : 0 < k) (hk : k < L.length) (j : Nat) : (swapL L k).getD j (0, 0) = if j = k - 1 then L.getD k (0, 0) else if j = k then L.getD (k - 1) (0, 0) else L.getD j (0, 0) := by
  unfold swapL
  simp only [List.getD_eq_getElem?_getD, List.getElem?_set, List.length_set]
  by_cases h1 : j = k - 1
  · rw [if_pos h1.symm, if_pos h1, if_pos (by omega)]
    simp
  · rw [if_neg (fun e => h1 e.symm), if_neg h1]
    by_cases h2 : j = k
    · rw [if_pos h2.symm, if_pos h2, if_pos (by omega)]
      simp
    · rw [if_neg (fun e => h2 e.symm), if_neg h2]
theorem swapL_perm {L : List Pr} {k : Nat} (h0 : 0 < k) (hk : k < L.length) : (swapL L k).Perm L := by
  obtain ⟨j, rfl⟩ : ∃ j, k = j + 1 := ⟨k - 1, by omega⟩
  have hL : L = L.take j ++ L[j] :: L[j + 1] :: L.drop (j + 2) := by
    conv => lhs; rw [← List.take_append_drop j L]
    rw [List.drop_eq_getElem_cons (by omega), List.drop_eq_getElem_cons (i := j + 1) (by omega)]
  have ht : (L.take j).length = j := by rw [List.length_take]; omega
  generalize L.take j = A at *
  generalize L[j] = x at *
  generalize L[j + 1] = y at *
  generalize L.drop (j + 2) = B at *
  subst ht
  subst hL
  have h1 : swapL (A ++ x :: y :: B) (A.length + 1) = A ++ y :: x :: B := by
    unfold swapL
    simp [List.getD_eq_getElem?_getD]
  rw [h1]
  exact List.Perm.append_left A (List.Perm.swap x y B)
theorem InsTo.swap {L : List Pr} {i k : Nat} (h : InsTo L i k) (h0 : 0 < k) (hk : k ≤ i) (hi : i < L.length) (hl : leP (L.getD k (0, 0)) (L.getD (k - 1) (0, 0)) = true) : InsTo (swapL L k) i (k - 1) := fun a b h1 h2 h3 => by
  rw [swapL_get h0 (by omega), swapL_get h0 (by omega), if_neg h3]
  by_cases hb : b = k
  · subst hb
    rw [if_pos rfl, if_neg (show ¬ a = b by omega)]
    by_cases ha : a = b - 1
    · rw [if_pos ha]; exact hl
    · rw [if_neg ha]
      exact h a (b - 1) (by omega) (by omega) (by omega)
  · rw [if_neg hb]
    by_cases ha : a = k - 1
    · rw [if_pos ha]
      exact h k b (by omega) h2 hb
    · rw [if_neg ha]
      by_cases ha2 : a = k
      · rw [if_pos ha2]
        exact h (k - 1) b (by omega) h2 hb
      · rw [if_neg ha2]
        exact h a b h1 h2 hb
theorem SrtTo.zero (L : List Pr) : SrtTo L 0 := fun a b _ h => by omega
theorem SrtTo.done {L ps : List Pr} (h : SrtTo L L.length) (hp : L.Perm ps) : L = sortP ps := sortP_unique hp (by
  rw [List.pairwise_iff_getElem]
  intro i j hi hj hij
  have := h i j hij hj
  rw [List.getD_eq_getElem?_getD, List.getD_eq_getElem?_getD, List.getElem?_eq_getElem hi, List.getElem?_eq_getElem hj] at this
  exact this)
theorem powE_over {z : Int} {p n m : Nat} (hz : 1 ≤ z) (hp : 1 ≤ p) (hm : m ≤ n) (h : 1000000000 < z * ((p ^ m : Nat) : Int)) : z * (powE p n : Int) < 1 ∨ 1000000000 < z * (powE p n : Int) := by
  unfold powE
  split
  · refine .inr ?_
    have h1 : p ^ m ≤ p ^ n := Nat.pow_le_pow_right hp hm
    have h2 : z * ((p ^ m : Nat) : Int) ≤ z * ((p ^ n : Nat) : Int) := Int.mul_le_mul_of_nonneg_left (by omega) (by omega)
    omega
  · exact .inl (by simp)
theorem powE_in {z : Int} {p n : Nat} (hz : 1 ≤ z) (h : z * ((p ^ n : Nat) : Int) ≤ 1000000000) : powE p n = p ^ n := by
  unfold powE
  rw [if_pos]
  have h2 : 1 * ((p ^ n : Nat) : Int) ≤ z * ((p ^ n : Nat) : Int) := Int.mul_le_mul_of_nonneg_right hz (by omega)
  omega
theorem one_le_pow {z : Int} {p n : Nat} (hz : 1 ≤ z) (hp : 1 ≤ p) : 1 ≤ z * ((p ^ n : Nat) : Int) := by
  have h1 : 1 ≤ p ^ n := Nat.one_le_pow _ _ (by omega)
  have h2 : z * 1 ≤ z * ((p ^ n : Nat) : Int) := Int.mul_le_mul_of_nonneg_left (by omega) (by omega)
  omega
end Go.Proofs
namespace Go.Proofs
open Go.RowKit Go.Shelf Go.Proofs.Sm
set_option maxRecDepth 100000 in
set_option maxHeartbeats 2000000 in
theorem factors24_yes (w : World) (n0 : Nat) (h1 : 1 ≤ n0) (h2 : n0 ≤ 1000000000) : Calls Tryz.prog 24 #[.int .i64 (n0 : Int)] w (FacsPost (factN n0) w) := by
  have hn1 : (1 : Int) ≤ (n0 : Int) := by omega
  have hn2 : (n0 : Int) ≤ 1000000000 := by omega
  go_enter Tryz.func24, Tryz.ntmps24
  go_wp2_with fail
  go_loopw [0, 4, 5] (fun zn zo zd wr => ∃ (n d : Nat) (out : List Pr) (A : Option Addr) (c : Nat), zn = .int .i64 n ∧ zo = .slice A out.length c ∧ zd = .int .i64 d ∧ d ≤ n0 + 1 ∧ Hid (FI n0 n d out ∧ OwnP w.heap.size wr (.slice A out.length c) out ∧ Below w.heap.size w wr)) (fun _ _ zd _ => n0 + 2 - (intOf zd).toNat)
  case atStart => exact ⟨n0, 2, [], none, 0, rfl, rfl, rfl, by omega, Lib.hid ⟨FI.start h1, OwnP.nil _ _, Below.refl _ _⟩⟩
  case round =>
    obtain ⟨n, d, out, A, c, rfl, rfl, rfl, hd, HI⟩ := hrel
    have hnn := HI.out.1.le
    have hnp := HI.out.1.pos
    have hn0 : (1 : Int) ≤ (n : Int) := by omega
    have hnb : (n : Int) ≤ 1000000000 := by omega
    have hd2 := HI.out.1.two
    by_cases hn : 1 < n
    · have hni : (1 : Int) < (n : Int) := by omega
      have hdn := HI.out.1.d_le hn
      have hdb : (d : Int) ≤ 1000000000 := by omega
      have hdb2 : (2 : Int) ≤ (d : Int) := by omega
      have hm1 : d * d ≤ 1000000000 * 1000000000 := Nat.mul_le_mul (by omega) (by omega)
      have hcast : (d : Int) * (d : Int) = ((d * d : Nat) : Int) := by rw [Int.natCast_mul]
      have hwz : IntKind.i64.wrap ((d : Int) * (d : Int)) = ((d * d : Nat) : Int) := by rw [hcast]; exact IntWalk.i64_in _ (by omega)
      by_cases hc : n < d * d
      · have hci : (n : Int) < ((d * d : Nat) : Int) := by omega
        have HFI := Lib.hid (HI.out.1.jump hn hc)
        clear hcast
        generalize d * d = sq at *
        have hD2 := HFI.out.two
        have hDn : n ≤ n := HFI.out.d_le hn
        have hdne : ((n : Int) == 0) = false := by simp; omega
        have hdne2 : ((n : Int) != 0) = true := by simp; omega
        obtain ⟨T, hT⟩ : ∃ T, T = stripF n n 0 n := ⟨_, rfl⟩
        have HT := Lib.hid hT.symm
        clear hT
        have HIH : Hid (n % n = 0 → ∀ m k : Nat, T = (m, k) → FI n0 m (n + 1) (out ++ [((n : Int), (k : Int))]) ∧ 1 ≤ k ∧ m < n) := Lib.hid fun h0 m k h3 => HFI.out.hit hn h0 (HT.out.trans h3)
        have HMI : Hid (n % n ≠ 0 → FI n0 n (n + 1) out) := Lib.hid fun h0 => HFI.out.miss h0
        go_wp2_with fail
        go_loopw [0, 6] (fun zn zk wr1 => ∃ x j g : Nat, zn = .int .i64 x ∧ zk = .int .i64 j ∧ 1 ≤ x ∧ x ≤ n ∧ j + x ≤ n ∧ (j = 0 → x = n) ∧ Hid ((0 < j → n % n = 0) ∧ stripF n x j g = T ∧ x ≤ g) ∧ ∃ q, wr1 = wr.drewN q) (fun zn _ _ => (intOf zn).toNat)
        case atStart => exact ⟨n, 0, n, rfl, rfl, by omega, by omega, by omega, fun _ => rfl, Lib.hid ⟨fun h => absurd h (by omega), HT.out, Nat.le_refl _⟩, 0, rfl⟩
        case round =>
          obtain ⟨x, j, g, rfl, rfl, hx1, hxn, hjx, hjn, HS, q, rfl⟩ := hrel
          have hx0 : (0 : Int) ≤ (x : Int) := Int.natCast_nonneg _
          have hj0 : (0 : Int) ≤ (j : Int) := Int.natCast_nonneg _
          have hjb : (j : Int) ≤ 1000000000 := by omega
          have ht := tmod_nat x n
          have htd := tdiv_nat x n
          have hmd : x % n < n := Nat.mod_lt _ (by omega)
          have hwt : IntKind.i64.wrap ((x % n : Nat) : Int) = ((x % n : Nat) : Int) := IntWalk.i64_in _ (by omega)
          by_cases h0 : x % n = 0
          · obtain ⟨g', hg, hg2, hy1, hyx⟩ := strip_go (k := j) hD2 hx1 HS.out.2.2 h0
            have HN : Hid (n % n = 0 ∧ stripF n (x / n) (j + 1) g' = T ∧ x / n ≤ g') := Lib.hid ⟨by
              rcases Nat.eq_zero_or_pos j with h5 | h5
              · rw [hjn h5] at h0; exact h0
              · exact HS.out.1 h5, by rw [← hg]; exact HS.out.2.1, hg2⟩
            have hwd : IntKind.i64.wrap ((x / n : Nat) : Int) = ((x / n : Nat) : Int) := IntWalk.i64_in _ (by omega)
            rw [h0] at ht hwt
            have ht0 : ((0 : Nat) : Int) = 0 := rfl
            rw [ht0] at ht hwt
            clear hg hg2 h0 hmd hjn HS
            generalize x / n = y at *
            go_wp2_with fail
            go_roundw
            case rel => exact ⟨y, j + 1, g', rfl, by go_num, hy1, by omega, by omega, fun h => absurd h (by omega), Lib.hid ⟨fun _ => HN.out.1, HN.out.2⟩, (by first | exact ⟨_, rfl⟩ | exact ex_drewN)⟩
            case measure => simp [intOf]; omega
          · have HTX : Hid (T = (x, j)) := Lib.hid (by rw [← HS.out.2.1, strip_stop hx1 HS.out.2.2 h0])
            have hne : (((x % n : Nat) : Int) == 0) = false := by simp; omega
            rcases Nat.eq_zero_or_pos j with hj | hj
            · obtain rfl : n = x := (hjn hj).symm
              subst hj
              exact absurd (Nat.mod_self n) h0
            · obtain ⟨hF3, hk1, hmn⟩ := HIH.out (HS.out.1 hj) x j HTX.out
              have HF2 := Lib.hid hF3
              have hjp : (0 : Int) < (j : Int) := by omega
              have hlen := HFI.out.len h2
              have HPUSH : Hid (∀ q, ∃ A2 c2 w8, (Builtin.append_ #[26, 26] 26 #[.slice A out.length c, .slice (some ⟨(wr.drewN q).heap.size, 0, none⟩) 1 1]).run Tryz.prog ((wr.drewN q).alloc (.cells #[.int .i64 (n : Int), .int .i64 (j : Int)] 38)) = .ok (.slice A2 (out.length + 1) c2) w8 ∧ OwnP w.heap.size w8 (.slice A2 (out.length + 1) c2) (out ++ [((n : Int), (j : Int))]) ∧ Below w.heap.size w w8) := Lib.hid fun q => by
                obtain ⟨A2, c2, w8, hr8, ho8, hg8, -⟩ := push_pr (owns_below HI.out.2.1 (below_drewN (Below.refl _ _) q)) ((n : Int), (j : Int)) (by omega) HI.out.2.2.size
                exact ⟨A2, c2, w8, hr8, ho8, (below_drewN HI.out.2.2 q).grown hg8 HI.out.2.2.size (fun r hr => (OwnP.block HI.out.2.1 r hr).1)⟩
              clear HIH HMI h0 hmd hjn hF3 hlen
              generalize x % n = y at *
              obtain ⟨A2, c2, w8, hr8, ho8, hb8⟩ := HPUSH.out q
              have HR8 := Lib.hid hr8
              have HO8 := Lib.hid (And.intro ho8 hb8)
              clear hr8 ho8 hb8 HPUSH
              go_wp2_with ((with_reducible refine wpList_sel 39 ?_); refine wpList_val rfl (r_app (.tmp 34) (.tmp 38) 26 rfl rfl rfl HR8.out) ?_)
              go_roundw
              case rel => exact ⟨x, n + 1, out ++ [((n : Int), (j : Int))], A2, c2, rfl, by rw [List.length_append]; rfl, by go_num, by omega, Lib.hid ⟨HF2.out, by rw [List.length_append]; exact HO8.out.1, HO8.out.2⟩⟩
              case measure => simp [intOf]; omega
      · have hci : ¬ (n : Int) < ((d * d : Nat) : Int) := by omega
        have HFI := Lib.hid HI.out.1
        clear hcast
        generalize d * d = sq at *
        have hD2 := HFI.out.two
        have hDn : d ≤ n := HFI.out.d_le hn
        have hdne : ((d : Int) == 0) = false := by simp; omega
        have hdne2 : ((d : Int) != 0) = true := by simp; omega
        obtain ⟨T, hT⟩ : ∃ T, T = stripF d n 0 n := ⟨_, rfl⟩
        have HT := Lib.hid hT.symm
        clear hT
        have HIH : Hid (n % d = 0 → ∀ m k : Nat, T = (m, k) → FI n0 m (d + 1) (out ++ [((d : Int), (k : Int))]) ∧ 1 ≤ k ∧ m < n) := Lib.hid fun h0 m k h3 => HFI.out.hit hn h0 (HT.out.trans h3)
        have HMI : Hid (n % d ≠ 0 → FI n0 n (d + 1) out) := Lib.hid fun h0 => HFI.out.miss h0
        go_wp2_with fail
        go_loopw [0, 6] (fun zn zk wr1 => ∃ x j g : Nat, zn = .int .i64 x ∧ zk = .int .i64 j ∧ 1 ≤ x ∧ x ≤ n ∧ j + x ≤ n ∧ (j = 0 → x = n) ∧ Hid ((0 < j → n % d = 0) ∧ stripF d x j g = T ∧ x ≤ g) ∧ ∃ q, wr1 = wr.drewN q) (fun zn _ _ => (intOf zn).toNat)
        case atStart => exact ⟨n, 0, n, rfl, rfl, by omega, by omega, by omega, fun _ => rfl, Lib.hid ⟨fun h => absurd h (by omega), HT.out, Nat.le_refl _⟩, 0, rfl⟩
        case round =>
          obtain ⟨x, j, g, rfl, rfl, hx1, hxn, hjx, hjn, HS, q, rfl⟩ := hrel
          have hx0 : (0 : Int) ≤ (x : Int) := Int.natCast_nonneg _
          have hj0 : (0 : Int) ≤ (j : Int) := Int.natCast_nonneg _
          have hjb : (j : Int) ≤ 1000000000 := by omega
          have ht := tmod_nat x d
          have htd := tdiv_nat x d
          have hmd : x % d < d := Nat.mod_lt _ (by omega)
          have hwt : IntKind.i64.wrap ((x % d : Nat) : Int) = ((x % d : Nat) : Int) := IntWalk.i64_in _ (by omega)
          by_cases h0 : x % d = 0
          · obtain ⟨g', hg, hg2, hy1, hyx⟩ := strip_go (k := j) hD2 hx1 HS.out.2.2 h0
            have HN : Hid (n % d = 0 ∧ stripF d (x / d) (j + 1) g' = T ∧ x / d ≤ g') := Lib.hid ⟨by
              rcases Nat.eq_zero_or_pos j with h5 | h5
              · rw [hjn h5] at h0; exact h0
              · exact HS.out.1 h5, by rw [← hg]; exact HS.out.2.1, hg2⟩
            have hwd : IntKind.i64.wrap ((x / d : Nat) : Int) = ((x / d : Nat) : Int) := IntWalk.i64_in _ (by omega)
            rw [h0] at ht hwt
            have ht0 : ((0 : Nat) : Int) = 0 := rfl
            rw [ht0] at ht hwt
            clear hg hg2 h0 hmd hjn HS
            generalize x / d = y at *
            go_wp2_with fail
            go_roundw
            case rel => exact ⟨y, j + 1, g', rfl, by go_num, hy1, by omega, by omega, fun h => absurd h (by omega), Lib.hid ⟨fun _ => HN.out.1, HN.out.2⟩, (by first | exact ⟨_, rfl⟩ | exact ex_drewN)⟩
            case measure => simp [intOf]; omega
          · have HTX : Hid (T = (x, j)) := Lib.hid (by rw [← HS.out.2.1, strip_stop hx1 HS.out.2.2 h0])
            have hne : (((x % d : Nat) : Int) == 0) = false := by simp; omega
            rcases Nat.eq_zero_or_pos j with hj | hj
            · obtain rfl : n = x := (hjn hj).symm
              subst hj
              have HF2 := Lib.hid (HMI.out h0)
              clear HIH HMI h0 hmd hjn
              generalize n % d = y at *
              go_wp2_with fail
              go_roundw
              case rel => exact ⟨n, d + 1, out, A, c, rfl, rfl, by go_num, by omega, Lib.hid ⟨HF2.out, owns_below HI.out.2.1 (below_drewN (Below.refl _ _) _), below_drewN HI.out.2.2 _⟩⟩
              case measure => simp [intOf]; omega
            · obtain ⟨hF3, hk1, hmn⟩ := HIH.out (HS.out.1 hj) x j HTX.out
              have HF2 := Lib.hid hF3
              have hjp : (0 : Int) < (j : Int) := by omega
              have hlen := HFI.out.len h2
              have HPUSH : Hid (∀ q, ∃ A2 c2 w8, (Builtin.append_ #[26, 26] 26 #[.slice A out.length c, .slice (some ⟨(wr.drewN q).heap.size, 0, none⟩) 1 1]).run Tryz.prog ((wr.drewN q).alloc (.cells #[.int .i64 (d : Int), .int .i64 (j : Int)] 38)) = .ok (.slice A2 (out.length + 1) c2) w8 ∧ OwnP w.heap.size w8 (.slice A2 (out.length + 1) c2) (out ++ [((d : Int), (j : Int))]) ∧ Below w.heap.size w w8) := Lib.hid fun q => by
                obtain ⟨A2, c2, w8, hr8, ho8, hg8, -⟩ := push_pr (owns_below HI.out.2.1 (below_drewN (Below.refl _ _) q)) ((d : Int), (j : Int)) (by omega) HI.out.2.2.size
                exact ⟨A2, c2, w8, hr8, ho8, (below_drewN HI.out.2.2 q).grown hg8 HI.out.2.2.size (fun r hr => (OwnP.block HI.out.2.1 r hr).1)⟩
              clear HIH HMI h0 hmd hjn hF3 hlen
              generalize x % d = y at *
              obtain ⟨A2, c2, w8, hr8, ho8, hb8⟩ := HPUSH.out q
              have HR8 := Lib.hid hr8
              have HO8 := Lib.hid (And.intro ho8 hb8)
              clear hr8 ho8 hb8 HPUSH
              go_wp2_with ((with_reducible refine wpList_sel 39 ?_); refine wpList_val rfl (r_app (.tmp 34) (.tmp 38) 26 rfl rfl rfl HR8.out) ?_)
              go_roundw
              case rel => exact ⟨x, d + 1, out ++ [((d : Int), (j : Int))], A2, c2, rfl, by rw [List.length_append]; rfl, by go_num, by omega, Lib.hid ⟨HF2.out, by rw [List.length_append]; exact HO8.out.1, HO8.out.2⟩⟩
              case measure => simp [intOf]; omega
    · obtain rfl : n = 1 := by omega
      have h11 : ((1 : Nat) : Int) = 1 := rfl
      have HE := Lib.hid HI.out.1.done
      rw [h11]
      go_wp2_with fail
      go_ret2
      rw [← HE.out]
      exact ⟨A, c, rfl, HI.out.2⟩
end Go.Proofs
