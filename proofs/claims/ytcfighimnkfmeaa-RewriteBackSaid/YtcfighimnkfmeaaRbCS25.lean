/- The walk of RewriteBack (printed by genU4.py). -/
import Derived.Test.YtcfighimnkfmeaaRbCS23
import Derived.Test.YtcfighimnkfmeaaRbCS24
import Derived.Test.YtcfighimnkfmeaaRbCS19
namespace Go.Proofs
open Go.RowKit Go.Shelf Go.Proofs.Ct Go.Maps
theorem tup_new_own {N : Nat} {wr : Nat → Bool} {us : Nat → Nat → Bool} {O : Nat → Nat → Prop} {i : Nat} {w w' : World} {base : Nat} {v : Value} {X : List Int} {A : Option Addr} {c : Nat} {x : Int} (hv : v = .tuple #[.slice A X.length c, .int .i64 x]) (ho : OwnI w.heap.size w' (.slice A X.length c) X) (hf : Fits X) : (FP.tup X x).holds base v (Mx N wr us O i w w') w' := by
  obtain ⟨A', c', e, h⟩ := ints_new_own (N := N) (wr := wr) (us := us) (O := O) (i := i) (base := base) rfl ho hf
  obtain ⟨rfl, -, rfl⟩ := Value.slice.inj e
  exact ⟨_, _, hv, h⟩
theorem call20 (args : Array Value) (w : World) : (callFunc 20 args).run Try.prog w = .ok (.enter 20 args) w := enters_of Try.func20 (by kernel_rfl) rfl args w
set_option maxRecDepth 100000 in
set_option maxHeartbeats 8000000 in
theorem back7_any (w : World) (which : Int) (vl vk va vb : Value) (l k a b : List Int) (hl : IntsAt w vl l) (hk : IntsAt w vk k) (ha : IntsAt w va a) (hb : IntsAt w vb b) (hw : -9223372036854775808 ≤ which ∧ which ≤ 9223372036854775807) :
    Calls Try.prog 7 #[.int .i64 which, vl, vk, va, vb] w fun e w' => e = .returned (.bool true) ∧ Below w.heap.size w w' := by
  have HL := Lib.hid hl
  have HK := Lib.hid hk
  have HA := Lib.hid ha
  have HB := Lib.hid hb
  have HW := Lib.hid hw
  obtain ⟨Al, cl, rfl, q1, q2, -⟩ := hl.open_
  have hl3 : (l.length : Int) ≤ 9223372036854775807 := by omega
  have hl4 : (0 : Int) ≤ (l.length : Int) := Int.natCast_nonneg _
  clear q1 q2
  obtain ⟨Ak, ck, rfl, q1, q2, -⟩ := hk.open_
  have hk3 : (k.length : Int) ≤ 9223372036854775807 := by omega
  have hk4 : (0 : Int) ≤ (k.length : Int) := Int.natCast_nonneg _
  clear q1 q2
  obtain ⟨Aa, ca, rfl, q1, q2, -⟩ := ha.open_
  have ha3 : (a.length : Int) ≤ 9223372036854775807 := by omega
  have ha4 : (0 : Int) ≤ (a.length : Int) := Int.natCast_nonneg _
  clear q1 q2
  obtain ⟨Ab, cb, rfl, q1, q2, -⟩ := hb.open_
  have hb3 : (b.length : Int) ≤ 9223372036854775807 := by omega
  have hb4 : (0 : Int) ≤ (b.length : Int) := Int.natCast_nonneg _
  clear q1 q2
  clear hl hk ha hb hw
  by_cases a0 : 50 < (l.length : Int)
  · go_enter Try.func7, Try.ntmps7
    go_wp2_with fail
    refine (known_walk _).mono ?_
    rintro e v1 ⟨rfl, hb⟩
    have HB1 := Lib.hid hb
    clear hb
    go_wp2_with fail
    go_ret
    exact ⟨rfl, HB1.out⟩
  have a0' : (l.length : Int) ≤ 50 := by omega
  clear a0
  by_cases a1 : 30 < (k.length : Int)
  · go_enter Try.func7, Try.ntmps7
    go_wp2_with fail
    refine (known_walk _).mono ?_
    rintro e v1 ⟨rfl, hb⟩
    have HB1 := Lib.hid hb
    clear hb
    go_wp2_with fail
    go_ret
    exact ⟨rfl, HB1.out⟩
  have a1' : (k.length : Int) ≤ 30 := by omega
  clear a1
  by_cases a2 : 30 < (a.length : Int)
  · go_enter Try.func7, Try.ntmps7
    go_wp2_with fail
    refine (known_walk _).mono ?_
    rintro e v1 ⟨rfl, hb⟩
    have HB1 := Lib.hid hb
    clear hb
    go_wp2_with fail
    go_ret
    exact ⟨rfl, HB1.out⟩
  have a2' : (a.length : Int) ≤ 30 := by omega
  clear a2
  by_cases a3 : 30 < (b.length : Int)
  · go_enter Try.func7, Try.ntmps7
    go_wp2_with fail
    refine (known_walk _).mono ?_
    rintro e v1 ⟨rfl, hb⟩
    have HB1 := Lib.hid hb
    clear hb
    go_wp2_with fail
    go_ret
    exact ⟨rfl, HB1.out⟩
  have a3' : (b.length : Int) ≤ 30 := by omega
  clear a3
  obtain ⟨g, hg0, hg1, hg2, hg3, hg4, T, d1, k1, e1, hE1, he1, hTl, hC⟩ := back_all which l k
  have HC := Lib.hid hC
  have HG : Hid (∀ W, Below w.heap.size w W → Calls Try.prog 37 #[.int .i64 which, .slice Al l.length cl] W fun e w' => (∃ A c, e = .returned (.agg #[.int .i64 (g : Int), .slice A (givenP 4 which l).2.length c]) ∧ Tab w' (.slice A (givenP 4 which l).2.length c) (givenP 4 which l).2) ∧ Below W.heap.size W w') := Lib.hid fun W h => by
    rw [← hg0]
    exact given37_any W which _ l (HL.out.below h) (by omega) HW.out
  have H38 : Hid (∀ W Ar cr, Below w.heap.size w W → Tab W (.slice Ar (givenP 4 which l).2.length cr) (givenP 4 which l).2 → Calls Try.prog 38 #[.agg #[.int .i64 (g : Int), .slice Ar (givenP 4 which l).2.length cr], .slice Ak k.length ck] W fun e w' => (∃ A c, e = .returned (.tuple #[.slice A T.length c, .bool (decide (e1 = 0) && decide (T.length ≤ 40))]) ∧ Tab w' (.slice A T.length c) T) ∧ Below W.heap.size W w') := Lib.hid fun W Ar cr h hR =>
    tabled38_any W _ Ar cr g _ k T d1 k1 e1 ⟨hg1, by omega⟩ hR (HK.out.below h) (by omega) (fun j => by have := hg4.short j; omega) (fun j => by have := hg3.short j; omega) (by have := hg4.len; omega) hE1 he1 (by omega)
  have HX : Hid (∀ W, Below w.heap.size w W → Calls Try.prog 39 #[.slice Aa a.length ca, .int .i64 (g : Int)] W fun e w' => (∃ A c, e = .returned (.slice A (wordOf g a).length c) ∧ OwnI W.heap.size w' (.slice A (wordOf g a).length c) (wordOf g a)) ∧ Below W.heap.size W w') := Lib.hid fun W h =>
    (wordOf39_any W _ a g (HA.out.below h) (by omega) (by omega)).mono fun e w' (⟨A, c, h1, h2, h3⟩ : WordPost _ W e w') => ⟨⟨A, c, h1, h2⟩, h3⟩
  have HY : Hid (∀ W, Below w.heap.size w W → Calls Try.prog 39 #[.slice Ab b.length cb, .int .i64 (g : Int)] W fun e w' => (∃ A c, e = .returned (.slice A (wordOf g b).length c) ∧ OwnI W.heap.size w' (.slice A (wordOf g b).length c) (wordOf g b)) ∧ Below W.heap.size W w') := Lib.hid fun W h =>
    (wordOf39_any W _ b g (HB.out.below h) (by omega) (by omega)).mono fun e w' (⟨A, c, h1, h2, h3⟩ : WordPost _ W e w') => ⟨⟨A, c, h1, h2⟩, h3⟩
  have HXO : Hid (LOk g (wordOf g a) ∧ (wordOf g a).length ≤ 30) := Lib.hid ⟨lok_word hg1 a, by rw [length_wordOf]; omega⟩
  have HYO : Hid (LOk g (wordOf g b) ∧ (wordOf g b).length ≤ 30) := Lib.hid ⟨lok_word hg1 b, by rw [length_wordOf]; omega⟩
  generalize hbb : (decide (e1 = 0) && decide (T.length ≤ 40)) = bb at *
  have HBB := Lib.hid hbb
  clear hC hg3 hg4 hg0 hE1 he1 hbb HL HK HA HB HW
  generalize (givenP 4 which l).2 = rels at *
  generalize lawWords g 4 k = sub at *
  generalize wordOf g a = X at *
  generalize wordOf g b = Y at *
  have hg1' : 1 ≤ (g : Int) := by omega
  have hg2' : (g : Int) ≤ 3 := by omega
  go_enter Try.func7, Try.ntmps7
  go_wp2_with fail
  refine (known_walk _).mono ?_
  rintro e v1 ⟨rfl, hb⟩
  have HB1 := Lib.hid hb
  clear hb
  go_wp2_with fail
  refine (HG.out _ HB1.out).mono ?_
  rintro e v2 ⟨⟨A2, c2, rfl, ht⟩, hb⟩
  have HB2 := Lib.hid (bl3 HB1.out hb)
  have HT2 := Lib.hid ht
  clear ht hb
  have HLD := Lib.hid (box40 v2 (.int .i64 (g : Int)) (.slice A2 rels.length c2))
  have hal := (Below.refl v2.heap.size v2).alloc (Nat.le_refl _) (.cells #[.int .i64 (g : Int), .slice A2 rels.length c2] 40)
  have HT3 := Lib.hid (kept_tab.below HT2.out hal)
  have HB3 := Lib.hid (bl3 HB2.out hal)
  have HR3 := Lib.hid (Below.refl (v2.alloc (.cells #[.int .i64 (g : Int), .slice A2 rels.length c2] 40)).heap.size (v2.alloc (.cells #[.int .i64 (g : Int), .slice A2 rels.length c2] 40)))
  clear hal
  go_wp2_with (first
    | ((with_reducible refine wpList_sel 57 ?_); refine wpList_val rfl (r_loadAt 40 (.tmp 12) _ _ rfl rfl (HLD.out _ HR3.out).1) ?_))
  generalize hw3 : v2.alloc (.cells #[.int .i64 (g : Int), .slice A2 rels.length c2] 40) = v3 at *
  generalize v2.heap.size = B at *
  clear hw3
  refine (H38.out _ _ _ HB3.out HT3.out).mono ?_
  rintro e v4 ⟨⟨A4, c4, rfl, ht⟩, hb⟩
  have HR4 := Lib.hid (bl3 HR3.out hb)
  have HT4 := Lib.hid ht
  have HWM : Hid (∀ W, Below v4.heap.size v4 W → Below w.heap.size w W) := Lib.hid fun W h => bl3 HB3.out (bl3 HR4.out h)
  have HBC : Hid (∀ W, Below v4.heap.size v4 W → W.cell? ⟨B, 0, none⟩ = some (.int .i64 (g : Int))) := Lib.hid fun W h => (HLD.out _ (bl3 HR4.out h)).2
  clear ht hb H38 HG HR3 HT3 HT2 HB2 HB1 HLD
  have hT0 : (0 : Int) ≤ (T.length : Int) := Int.natCast_nonneg _
  cases bb with
  | false =>
    go_wp2_with fail
    go_ret
    exact ⟨rfl, HWM.out _ (Below.refl _ _)⟩
  | true =>
    obtain ⟨rfl, h40⟩ : e1 = 0 ∧ T.length ≤ 40 := by
      have := HBB.out
      simp only [Bool.and_eq_true, decide_eq_true_eq] at this
      exact this
    have hCT := HC.out rfl
    have hF := hCT.full
    have hS := hCT.std
    have hn1 := hF.good.n1
    have hXO := HXO.out
    have hYO := HYO.out
    have hXY : LOk g (X ++ Y) := hXO.1.app hYO.1
    have hXYl : (X ++ Y).length ≤ 60 := by rw [List.length_append]; omega
    have h40' : (T.length : Int) ≤ 40 := by omega
    have hn1' : 1 ≤ (T.length : Int) := by omega
    have H18 : Hid (∀ W v, Tab W v T → Calls Try.prog 18 #[.int .i64 (g : Int), v] W fun e w' => (∃ A c, e = .returned (.tuple #[.slice A (gensW T (reps T) g).length c, .int .i64 0]) ∧ Tab w' (.slice A (gensW T (reps T) g).length c) (gensW T (reps T) g)) ∧ Below W.heap.size W w') := Lib.hid fun W v h =>
      (gens18_good W v g T h hF.good hS).mono fun e w' (⟨⟨u, h5, h6⟩, h7⟩ : GensPost g T W e w') => by
        rw [gensE_good hF hS h40 (by omega)] at h5 h6
        obtain ⟨A', c', rfl⟩ := Tab.form h6.at_
        exact ⟨⟨A', c', h5, h6.at_⟩, h7⟩
    have H40 : ∀ ws, LOk g ws → ∀ W v u, Tab W v T → IntsAt W u ws → Calls Try.prog 40 #[.int .i64 (g : Int), v, .int .i64 0, u] W fun e w' => e = .returned (.tuple #[.int .i64 ((actW (nx T) 0 ws : Nat) : Int), .bool true]) ∧ Below W.heap.size W w' := fun ws hws W v u h1 h2 => traceK g T 0 _ _ _ (traceE_good hF (r := 0) hn1 hws) W v u h1 h2
    have H20 : ∀ (r : Nat) ws, r < T.length → LOk g ws → ws.length ≤ 4000 → ∀ W v u, Tab W v T → IntsAt W u ws → Calls Try.prog 20 #[.int .i64 (g : Int), v, .int .i64 (r : Int), u] W fun e w' => (∃ A c, e = .returned (.tuple #[.slice A (rwW T (reps T) g r ws).length c, .int .i64 0]) ∧ IntsAt w' (.slice A (rwW T (reps T) g r ws).length c) (rwW T (reps T) g r ws) ∧ OwnI W.heap.size w' (.slice A (rwW T (reps T) g r ws).length c) (rwW T (reps T) g r ws)) ∧ Below W.heap.size W w' := fun r ws hr hws hl W v u h1 h2 =>
      rewrite20_own W v u g r T ws h1 h2 hF.good hS hr hws hl
    have H40X := Lib.hid (H40 X hXO.1)
    have H40Z := Lib.hid (H40 (X ++ Y) hXY)
    have hm := (hF.way hXO.1 hn1).1
    have H20X := Lib.hid (H20 0 X hn1 hXO.1 (by omega))
    have H20Y := Lib.hid (H20 _ Y hm hYO.1 (by omega))
    have H20Z := Lib.hid (H20 0 (X ++ Y) hn1 hXY (by omega))
    have hR := reps_ok hF
    have H20G : Hid (∀ i, i < (gensW T (reps T) g).length → ∀ W v u, Tab W v T → IntsAt W u ((gensW T (reps T) g).getD i []) → Calls Try.prog 20 #[.int .i64 (g : Int), v, .int .i64 0, u] W fun e w' => (∃ A c, e = .returned (.tuple #[.slice A 1 c, .int .i64 0]) ∧ IntsAt w' (.slice A 1 c) [(i : Int) + 1] ∧ OwnI W.heap.size w' (.slice A 1 c) [(i : Int) + 1]) ∧ Below W.heap.size W w') := Lib.hid fun i hi => by
      have h5 := H20 0 ((gensW T (reps T) g).getD i []) hn1 (gensW_ok hR i) (by have := schr_len hF hS i; omega)
      rw [back_gens hF hS hi, show ((i + 1 : Nat) : Int) = (i : Int) + 1 by omega] at h5
      exact h5
    have HMUL : Hid (red (rwW T (reps T) g 0 X ++ rwW T (reps T) g (actW (nx T) 0 X) Y) = rwW T (reps T) g 0 (X ++ Y)) := Lib.hid (rw_mul (t := T) (R := reps T) (g := g) 0 X Y).symm
    have o1 := rw_ok hF hn1 hXO.1
    have o2 := rw_ok hF hm hYO.1
    have o3 := rw_ok hF hn1 hXY
    have n1 := rw_len (g := g) (t := T) 0 X
    have n2 := rw_len (g := g) (t := T) (actW (nx T) 0 X) Y
    have n3 := rw_len (g := g) (t := T) 0 (X ++ Y)
    have hps := pairs_length T (reps T) g
    have hpg : T.length * g ≤ 40 * 3 := Nat.mul_le_mul h40 hg2
    have hGl : (gensW T (reps T) g).length ≤ 120 := by rw [length_gensW]; omega
    have HBW : Hid (actW (nx T) 0 (X ++ Y) = 0 → ∀ W u v, IntsAt W u (rwW T (reps T) g 0 (X ++ Y)) → Tab W v (gensW T (reps T) g) → Calls Try.prog 42 #[u, v] W (SubstPost (red (X ++ Y)) W)) := Lib.hid fun h0 W u v h1 h2 => by
      have h5 := subst42_any W u v g _ _ (by omega) h1 h2 o3 (by omega) (gensW_ok hR) (fun j => by have := schr_len hF hS j; omega) (by omega)
      rwa [back_word hF hS hXY h0] at h5
    have H41 : Hid (∀ W u v, IntsAt W u (rwW T (reps T) g 0 X) → IntsAt W v (rwW T (reps T) g (actW (nx T) 0 X) Y) → Calls Try.prog 41 #[u, v] W fun e w' => (∃ A c, e = .returned (.slice A (rwW T (reps T) g 0 (X ++ Y)).length c) ∧ IntsAt w' (.slice A (rwW T (reps T) g 0 (X ++ Y)).length c) (rwW T (reps T) g 0 (X ++ Y))) ∧ Below W.heap.size W w') := Lib.hid fun W u v h1 h2 =>
      (mul41_any W u v _ _ h1 h2 (lok_mild (by omega) o1) (lok_mild (by omega) o2) (by omega)).mono fun e w' (⟨A, c, h5, h6, h7⟩ : RedPost _ W e w') => by
        rw [HMUL.out] at h5 h6
        exact ⟨⟨A, c, h5, OwnI.ints h6 (lok_fitsU (by omega) o3)⟩, h7⟩
    have H41B : Hid (∀ W u v, IntsAt W u X → IntsAt W v Y → Calls Try.prog 41 #[u, v] W fun e w' => (∃ A c, e = .returned (.slice A (red (X ++ Y)).length c) ∧ IntsAt w' (.slice A (red (X ++ Y)).length c) (red (X ++ Y))) ∧ Below W.heap.size W w') := Lib.hid fun W u v h1 h2 =>
      (mul41_any W u v _ _ h1 h2 (lok_mild (by omega) hXO.1) (lok_mild (by omega) hYO.1) (by omega)).mono fun e w' (⟨A, c, h5, h6, h7⟩ : RedPost _ W e w') => ⟨⟨A, c, h5, OwnI.ints h6 (lok_fitsU (by omega) (lok_red hXY))⟩, h7⟩
    have H23 : Hid (∀ (W : World) u v (x : List Int), IntsAt W u x → IntsAt W v x → Calls Try.prog 23 #[u, v] W fun e w' => e = .returned (.bool true) ∧ Below W.heap.size W w') := Lib.hid fun W u v x h1 h2 =>
      (equal23_any W u v x x h1 h2).mono fun e w' ⟨h5, h6⟩ => ⟨h5.trans (ret_bool (by simp)), h6⟩
    have HFX : Hid (Fits X ∧ Fits Y ∧ Fits (X ++ Y)) := Lib.hid ⟨lok_fitsU (by omega) hXO.1, lok_fitsU (by omega) hYO.1, lok_fitsU (by omega) hXY⟩
    have HGS : Hid (∀ j, ((gensW T (reps T) g).getD j []).length ≤ 100) := Lib.hid fun j => by have := schr_len hF hS j; omega
    have HF3 : Hid (Fits (rwW T (reps T) g 0 (X ++ Y))) := Lib.hid (lok_fitsU (by omega) o3)
    have HXL : Hid (X.length ≤ 30 ∧ Y.length ≤ 30) := Lib.hid ⟨hXO.2, hYO.2⟩
    have hm' : ((actW (nx T) 0 X : Nat) : Int) < (T.length : Int) := by omega
    have n1' : ((rwW T (reps T) g 0 X).length : Int) ≤ 30 := by omega
    have n2' : ((rwW T (reps T) g (actW (nx T) 0 X) Y).length : Int) ≤ 30 := by omega
    have n3' : ((rwW T (reps T) g 0 (X ++ Y)).length : Int) ≤ 60 := by omega
    have hGl' : ((gensW T (reps T) g).length : Int) ≤ 120 := by omega
    have hf' : (0 : Int) ≤ ((actW (nx T) 0 (X ++ Y) : Nat) : Int) := Int.natCast_nonneg _
    have hfl : actW (nx T) 0 (X ++ Y) < T.length := (hF.way hXY hn1).1
    have hfl' : ((actW (nx T) 0 (X ++ Y) : Nat) : Int) < (T.length : Int) := by omega
    clear hCT hF hS hn1 hXO hYO hXY hXYl H40 H20 hm hR o1 o2 o3 n1 n2 n3 hps hpg hGl HC HBB HXO HYO HMUL hfl
    generalize hGE : gensW T (reps T) g = G at *
    generalize hF1 : rwW T (reps T) g 0 X = F1 at *
    generalize hm0 : actW (nx T) 0 X = m at *
    generalize hF2 : rwW T (reps T) g m Y = F2 at *
    generalize hF3 : rwW T (reps T) g 0 (X ++ Y) = F3 at *
    generalize hf0 : actW (nx T) 0 (X ++ Y) = f at *
    generalize hZR : red (X ++ Y) = Z at *
    clear hGE hF1 hm0 hF2 hF3 hf0 hZR
    have hx1 := HBC.out _ (Below.refl _ _)
    go_wp2_with fail
    clear hx1
    refine (H18.out _ _ HT4.out).mono ?_
    rintro e v5 ⟨⟨A5, c5, rfl, ht⟩, hb⟩
    have HR5 := Lib.hid hb
    have HG5 := Lib.hid ht
    have HTW : Hid (∀ W, Below v5.heap.size v5 W → Tab W (.slice A4 T.length c4) T ∧ W.cell? ⟨B, 0, none⟩ = some (.int .i64 (g : Int)) ∧ Below w.heap.size w W ∧ Tab W (.slice A5 G.length c5) G) := Lib.hid fun W h => ⟨kept_tab.below HT4.out (bl3 HR5.out h), HBC.out _ (bl3 HR5.out h), HWM.out _ (bl3 HR5.out h), kept_tab.below HG5.out h⟩
    clear ht hb H18 HT4 HR5 HG5 HWM HBC HR4 HB3
    go_wp2_with fail
    refine (wpIn_wide (n := 3)).1 ?_
    refine wpIn_region_own (by kernel_rfl) 10 rfl (fun i => ([some 74, some 75, some 76, some 77, some 78, some 79, some 80, some 81, some 17, some 18] : List (Option Nat)).getD i none) (lex_of (by kernel_rfl)) v5.heap.size (fun i => ([] : List Nat).contains i) (fun i j => (([[], [], [1], [0, 2], [], [], [5], [4, 6], [3], [7]] : List (List Nat)).getD i []).contains j) (fun W => Below v5.heap.size v5 W) (fun j v O W => (([.eq (.slice Aa a.length ca), .eq (.pointer (some ⟨B, 0, none⟩)), .eq (.int .i64 (g : Int)), .ints X, .eq (.slice Ab b.length cb), .eq (.pointer (some ⟨B, 0, none⟩)), .eq (.int .i64 (g : Int)), .ints Y, .ints X, .ints Y] : List FP).getD j FP.any).holds v5.heap.size v O W) (by kernel_rfl) (by kernel_rfl) (dm_inj (by kernel_rfl)) (fun j v O W W' _ _ h hs h1 h2 => FP.keep rfl h1 h2 hs h) (dm_lt (n := 203) (by kernel_rfl)) (Nat.le_refl _) (Below.refl _ _).drew ?_ ?_
    · intro O ls q o a w2 hq ho hS hbw hls hP hpre hdj
      have hcases : q = 0 ∨ q = 1 ∨ q = 2 ∨ q = 3 ∨ q = 4 ∨ q = 5 ∨ q = 6 ∨ q = 7 ∨ q = 8 ∨ q = 9 := by
        have : q < 10 := hq
        omega
      rcases hcases with rfl | rfl | rfl | rfl | rfl | rfl | rfl | rfl | rfl | rfl
      · obtain rfl := Option.some.inj ho
        exact wpOpIn_of rfl rfl (wpW_val (r_move (.tmp 3) rfl (hP.out 3 (dm_out (by kernel_rfl)))) ⟨_, _, rfl, hS, (fun h => by simp at h), Step.same, rfl⟩)
      · obtain rfl := Option.some.inj ho
        exact wpOpIn_of rfl rfl (wpW_val (r_fld (.tmp 12) _ rfl (hP.out 12 (dm_out (by kernel_rfl))) (by kernel_rfl)) ⟨_, _, rfl, hS, (fun h => by simp at h), Step.same, rfl⟩)
      · obtain rfl := Option.some.inj ho
        exact wpOpIn_of rfl rfl (wpW_val (r_load1 3 agg3 (.tmp 75) ⟨B, 0, none⟩ rfl (hpre 1 (by decide) rfl).1 (HTW.out _ hS).2.1) ⟨_, _, rfl, hS, (fun h => by simp at h), Step.same, rfl⟩)
      · obtain rfl := Option.some.inj ho
        exact wpOpIn_of rfl rfl (wpW_call (R := fun v w' => (∃ A c, v = .slice A X.length c ∧ OwnI w2.heap.size w' (.slice A X.length c) X) ∧ Below w2.heap.size w2 w') (r_call2 (.tmp 74) (.tmp 76) _ _ _ rfl (hpre 0 (by decide) rfl).1 (hpre 2 (by decide) rfl).1 call39) ((HX.out _ (HTW.out _ hS).2.2.1).mono fun e w' ⟨⟨A, c, he, ho⟩, hb⟩ => ⟨_, he, ⟨A, c, rfl, ho⟩, hb⟩)
          (fun v w'' ⟨⟨A, c, hv, ho⟩, hb⟩ => ⟨v, _, rfl, hS.trans (hb.mono hS.size), (fun h => by simp at h), Step.below hb, ints_new_own hv ho HFX.out.1⟩))
      · obtain rfl := Option.some.inj ho
        exact wpOpIn_of rfl rfl (wpW_val (r_move (.tmp 4) rfl (hP.out 4 (dm_out (by kernel_rfl)))) ⟨_, _, rfl, hS, (fun h => by simp at h), Step.same, rfl⟩)
      · obtain rfl := Option.some.inj ho
        exact wpOpIn_of rfl rfl (wpW_val (r_fld (.tmp 12) _ rfl (hP.out 12 (dm_out (by kernel_rfl))) (by kernel_rfl)) ⟨_, _, rfl, hS, (fun h => by simp at h), Step.same, rfl⟩)
      · obtain rfl := Option.some.inj ho
        exact wpOpIn_of rfl rfl (wpW_val (r_load1 3 agg3 (.tmp 79) ⟨B, 0, none⟩ rfl (hpre 5 (by decide) rfl).1 (HTW.out _ hS).2.1) ⟨_, _, rfl, hS, (fun h => by simp at h), Step.same, rfl⟩)
      · obtain rfl := Option.some.inj ho
        exact wpOpIn_of rfl rfl (wpW_call (R := fun v w' => (∃ A c, v = .slice A Y.length c ∧ OwnI w2.heap.size w' (.slice A Y.length c) Y) ∧ Below w2.heap.size w2 w') (r_call2 (.tmp 78) (.tmp 80) _ _ _ rfl (hpre 4 (by decide) rfl).1 (hpre 6 (by decide) rfl).1 call39) ((HY.out _ (HTW.out _ hS).2.2.1).mono fun e w' ⟨⟨A, c, he, ho⟩, hb⟩ => ⟨_, he, ⟨A, c, rfl, ho⟩, hb⟩)
          (fun v w'' ⟨⟨A, c, hv, ho⟩, hb⟩ => ⟨v, _, rfl, hS.trans (hb.mono hS.size), (fun h => by simp at h), Step.below hb, ints_new_own hv ho HFX.out.2.1⟩))
      · obtain rfl := Option.some.inj ho
        have k := hpre 3 (by decide) rfl
        exact wpOpIn_of rfl rfl (wpW_val (r_assign (.tmp 77) rfl rfl) ⟨_, _, rfl, hS, (fun h => by simp at h), Step.same, FP.mono (fun q hq => Mx.of (j := 3) (by decide) rfl (by decide) hq (k.2 q hq).2) k.1⟩)
      · obtain rfl := Option.some.inj ho
        have k := hpre 7 (by decide) rfl
        exact wpOpIn_of rfl rfl (wpW_val (r_assign (.tmp 81) rfl rfl) ⟨_, _, rfl, hS, (fun h => by simp at h), Step.same, FP.mono (fun q hq => Mx.of (j := 7) (by decide) rfl (by decide) hq (k.2 q hq).2) k.1⟩)
    · intro O ls a w2 hall hS hbw hP hsl
      obtain ⟨vs, hvs, hfr⟩ := hP.frame 203 rfl
      obtain ⟨AX, cX, e17', i17⟩ := (hsl 8 (by decide) (.inl rfl)).1
      obtain ⟨AY, cY, e18', i18⟩ := (hsl 9 (by decide) (.inl rfl)).1
      have e17 : a.tmps.getD 17 undef = .slice AX X.length cX := e17'
      have e18 : a.tmps.getD 18 undef = .slice AY Y.length cY := e18'
      rw [← hvs] at e17 e18
      have hiX := i17.at_
      have hiY := i18.at_
      have HV : Hid (∀ V, Below w2.heap.size w2 V → IntsAt V (.slice AX X.length cX) X ∧ IntsAt V (.slice AY Y.length cY) Y ∧ Tab V (.slice A4 T.length c4) T ∧ V.cell? ⟨B, 0, none⟩ = some (.int .i64 (g : Int)) ∧ Below w.heap.size w V ∧ Tab V (.slice A5 G.length c5) G) := Lib.hid fun V h => ⟨hiX.below h, hiY.below h, HTW.out _ (bl3 hS h)⟩
      clear e17' e18' i17 i18 hiX hiY HTW HX HY
      clear hsl hP hall hS hvs hbw
      subst hfr
      dsimp only
      simp only [List.range, List.range.loop, List.map_cons, List.map_nil, List.any_cons, List.any_nil, Nat.reduceBEq, Option.some_beq_some, Bool.or_false, Bool.false_or, Bool.false_eq_true, if_true, if_false, List.getD_cons_zero, List.getD_cons_succ, e17, e18]
      rename World => w6
      have x1 := (HV.out _ (Below.refl _ _)).2.2.2.1
      go_wp2_with fail
      clear x1
      refine (H40X.out _ _ _ (HV.out _ (Below.refl _ _)).2.2.1 (HV.out _ (Below.refl _ _)).1).mono ?_
      rintro e v7 ⟨rfl, hb⟩
      have HR7 := Lib.hid hb
      clear hb H40X
      go_wp2_with fail
      refine (wpIn_wide (n := 3)).1 ?_
      refine wpIn_region_own (by kernel_rfl) 14 rfl (fun i => ([some 91, some 92, some 93, some 94, some 95, some 96, some 97, some 98, some 99, some 90, some 100, some 101, some 21, some 22] : List (Option Nat)).getD i none) (lex_of (by kernel_rfl)) v7.heap.size (fun i => ([3, 5] : List Nat).contains i) (fun i j => (([[], [0], [], [], [], [3, 4], [], [5, 6], [1, 2, 7], [8], [9], [9], [10], [11]] : List (List Nat)).getD i []).contains j) (fun W => Below v7.heap.size v7 W) (fun j v O W => (([.eq (.pointer (some ⟨B, 0, none⟩)), .eq (.int .i64 (g : Int)), .eq (.slice A4 T.length c4), .own [], .eq (.slice AX X.length cX), .own X, .eq (.slice AY Y.length cY), .ints (X ++ Y), .eq (.tuple #[.int .i64 (f : Int), .bool true]), .eq (.tuple #[.int .i64 (f : Int), .bool true]), .eq (.int .i64 (f : Int)), .eq (.bool true), .eq (.int .i64 (f : Int)), .eq (.bool true)] : List FP).getD j FP.any).holds v7.heap.size v O W) (by kernel_rfl) (by kernel_rfl) (dm_inj (by kernel_rfl)) (fun j v O W W' _ _ h hs h1 h2 => FP.keep rfl h1 h2 hs h) (dm_lt (n := 203) (by kernel_rfl)) (Nat.le_refl _) (Below.refl _ _).drew ?_ ?_
      · intro O ls q o a w2 hq ho hS hbw hls hP hpre hdj
        have hcases : q = 0 ∨ q = 1 ∨ q = 2 ∨ q = 3 ∨ q = 4 ∨ q = 5 ∨ q = 6 ∨ q = 7 ∨ q = 8 ∨ q = 9 ∨ q = 10 ∨ q = 11 ∨ q = 12 ∨ q = 13 := by
          have : q < 14 := hq
          omega
        rcases hcases with rfl | rfl | rfl | rfl | rfl | rfl | rfl | rfl | rfl | rfl | rfl | rfl | rfl | rfl
        · obtain rfl := Option.some.inj ho
          exact wpOpIn_of rfl rfl (wpW_val (r_fld (.tmp 12) _ rfl (hP.out 12 (dm_out (by kernel_rfl))) (by kernel_rfl)) ⟨_, _, rfl, hS, (fun h => by simp at h), Step.same, rfl⟩)
        · obtain rfl := Option.some.inj ho
          exact wpOpIn_of rfl rfl (wpW_val (r_load1 3 agg3 (.tmp 91) ⟨B, 0, none⟩ rfl (hpre 0 (by decide) rfl).1 (HV.out _ (bl3 HR7.out hS)).2.2.2.1) ⟨_, _, rfl, hS, (fun h => by simp at h), Step.same, rfl⟩)
        · obtain rfl := Option.some.inj ho
          exact wpOpIn_of rfl rfl (wpW_val (r_move (.tmp 13) rfl (hP.out 13 (dm_out (by kernel_rfl)))) ⟨_, _, rfl, hS, (fun h => by simp at h), Step.same, rfl⟩)
        · obtain rfl := Option.some.inj ho
          have hal : Below w2.heap.size w2 (w2.alloc (.cells #[] 3)) := (Below.refl _ _).alloc (Nat.le_refl _) _
          exact wpOpIn_of rfl rfl (wpW_val (r_bs25_0 rfl) ⟨_, _, rfl, hS.trans (hal.mono hS.size), (fun h => by simp at h), Step.below hal, own_start hbw⟩)
        · obtain rfl := Option.some.inj ho
          exact wpOpIn_of rfl rfl (wpW_val (r_move (.tmp 17) rfl (hP.out 17 (dm_out (by kernel_rfl)))) ⟨_, _, rfl, hS, (fun h => by simp at h), Step.same, rfl⟩)
        · obtain rfl := Option.some.inj ho
          obtain ⟨A', c', w', hr, hg, hb, hf⟩ := FP.app_ints (ty := 25) Try.underlying25 (hpre 3 (by decide) rfl).1 ((HV.out _ (bl3 HR7.out hS))).1 (by simp) (by have := HXL.out.1; omega) hbw
          rw [List.nil_append] at hr hf
          exact wpOpIn_of rfl rfl (wpW_val (r_app (.tmp 94) (.tmp 95) 25 rfl rfl (hpre 4 (by decide) rfl).1 hr) ⟨_, _, rfl, grown_below rfl hS hg (fun r hr => (hb r hr).2), (fun h => by simp at h), Step.grown hg (fun r hr => ⟨3, by decide, rfl, rfl, (hb r hr).1⟩), hf _ (fun q h1 h2 => Mx.of (j := 3) (by decide) rfl (fun _ => rfl) h1 (Nat.lt_of_lt_of_le h2 hg.size)) (fun q h1 h2 => Mx.fresh h1 h2)⟩)
        · obtain rfl := Option.some.inj ho
          exact wpOpIn_of rfl rfl (wpW_val (r_move (.tmp 18) rfl (hP.out 18 (dm_out (by kernel_rfl)))) ⟨_, _, rfl, hS, (fun h => by simp at h), Step.same, rfl⟩)
        · obtain rfl := Option.some.inj ho
          obtain ⟨A', c', w', hr, hg, hb, hf⟩ := FP.app_ints (ty := 25) Try.underlying25 (hpre 5 (by decide) rfl).1 ((HV.out _ (bl3 HR7.out hS))).2.1 (by have := HXL.out.1; omega) (by have := HXL.out.2; omega) hbw
          exact wpOpIn_of rfl rfl (wpW_val (r_app (.tmp 96) (.tmp 97) 25 rfl rfl (hpre 6 (by decide) rfl).1 hr) ⟨_, _, rfl, grown_below rfl hS hg (fun r hr => (hb r hr).2), (fun h => by simp at h), Step.grown hg (fun r hr => ⟨5, by decide, rfl, rfl, (hb r hr).1⟩), FP.ints_of_own (hf _ (fun q h1 h2 => Mx.of (j := 5) (by decide) rfl (by decide) h1 (Nat.lt_of_lt_of_le h2 hg.size)) (fun q h1 h2 => Mx.fresh h1 h2)) HFX.out.2.2 (fun _ h => h)⟩)
        · obtain rfl := Option.some.inj ho
          obtain ⟨A, q, e7, i7⟩ := (hpre 7 (by decide) rfl).1
          exact wpOpIn_of rfl rfl (wpW_call (R := fun v w' => v = .tuple #[.int .i64 (f : Int), .bool true] ∧ Below w2.heap.size w2 w') (r_call4 (.tmp 92) (.tmp 93) (.const (.int .i64 0)) (.tmp 98) _ _ _ _ _ rfl (hpre 1 (by decide) rfl).1 (hpre 2 (by decide) rfl).1 rfl e7 call40) ((H40Z.out w2 _ _ (HV.out _ (bl3 HR7.out hS)).2.2.1 i7.at_).mono fun e w' ⟨he, hb⟩ => ⟨_, he, rfl, hb⟩)
            (fun v w'' ⟨hv, hb⟩ => ⟨v, _, rfl, hS.trans (hb.mono hS.size), (fun h => by simp at h), Step.below hb, hv⟩))
        · obtain rfl := Option.some.inj ho
          exact wpOpIn_of rfl rfl (wpW_val (r_move (.tmp 99) rfl (hpre 8 (by decide) rfl).1) ⟨_, _, rfl, hS, (fun h => by simp at h), Step.same, rfl⟩)
        · obtain rfl := Option.some.inj ho
          exact wpOpIn_of rfl rfl (wpW_val (r_extract 0 (.tmp 90) _ rfl (hpre 9 (by decide) rfl).1 rfl) ⟨_, _, rfl, hS, (fun h => by simp at h), Step.same, rfl⟩)
        · obtain rfl := Option.some.inj ho
          exact wpOpIn_of rfl rfl (wpW_val (r_extract 1 (.tmp 90) _ rfl (hpre 9 (by decide) rfl).1 rfl) ⟨_, _, rfl, hS, (fun h => by simp at h), Step.same, rfl⟩)
        · obtain rfl := Option.some.inj ho
          exact wpOpIn_of rfl rfl (wpW_val (r_assign (.tmp 100) rfl (hpre 10 (by decide) rfl).1) ⟨_, _, rfl, hS, (fun h => by simp at h), Step.same, rfl⟩)
        · obtain rfl := Option.some.inj ho
          exact wpOpIn_of rfl rfl (wpW_val (r_assign (.tmp 101) rfl (hpre 11 (by decide) rfl).1) ⟨_, _, rfl, hS, (fun h => by simp at h), Step.same, rfl⟩)
      · intro O ls a w2 hall hS hbw hP hsl
        obtain ⟨vs, hvs, hfr⟩ := hP.frame 203 rfl
        have e21 : a.tmps.getD 21 undef = .int .i64 (f : Int) := (hsl 12 (by decide) (.inl rfl)).1
        have e22 : a.tmps.getD 22 undef = .bool true := (hsl 13 (by decide) (.inl rfl)).1
        rw [← hvs] at e21 e22
        have HR8 := Lib.hid (bl3 HR7.out hS)
        clear hsl hP hall hS hvs hbw
        subst hfr
        dsimp only
        simp only [List.range, List.range.loop, List.map_cons, List.map_nil, List.any_cons, List.any_nil, Nat.reduceBEq, Option.some_beq_some, Bool.or_false, Bool.false_or, Bool.false_eq_true, if_true, if_false, List.getD_cons_zero, List.getD_cons_succ, e21, e22]
        rename World => w8
        clear HR7 H40Z
        have x1 := (HV.out _ HR8.out).2.2.2.1
        go_wp2_with fail
        clear x1
        refine (H20X.out _ _ _ (HV.out _ HR8.out).2.2.1 (HV.out _ HR8.out).1).mono ?_
        rintro e v9 ⟨⟨A9, c9, rfl, hi⟩, hb⟩
        have HR9 := Lib.hid (bl3 HR8.out hb)
        have HI9 := Lib.hid hi.1
        clear hi hb H20X HR8
        have x1 := (HV.out _ HR9.out).2.2.2.1
        go_wp2_with fail
        clear x1
        refine (H20Y.out _ _ _ (HV.out _ HR9.out).2.2.1 (HV.out _ HR9.out).2.1).mono ?_
        rintro e v10 ⟨⟨A10, c10, rfl, hi⟩, hb⟩
        have HR7 := Lib.hid (bl3 HR9.out hb)
        have HI10 := Lib.hid hi.1
        have HI910 := Lib.hid (kept_ints.below HI9.out hb)
        clear hi hb H20Y HR9 HI9
        go_wp2_with fail
        refine (wpIn_wide (n := 3)).1 ?_
        refine wpIn_region_own (by kernel_rfl) 14 rfl (fun i => ([some 120, some 121, some 122, some 123, some 124, some 125, some 126, some 127, some 128, some 119, some 129, some 130, some 26, some 27] : List (Option Nat)).getD i none) (lex_of (by kernel_rfl)) v10.heap.size (fun i => ([3, 5] : List Nat).contains i) (fun i j => (([[], [0], [], [], [], [3, 4], [], [5, 6], [1, 2, 7], [8], [9], [9], [10], [11]] : List (List Nat)).getD i []).contains j) (fun W => Below v10.heap.size v10 W) (fun j v O W => (([.eq (.pointer (some ⟨B, 0, none⟩)), .eq (.int .i64 (g : Int)), .eq (.slice A4 T.length c4), .own [], .eq (.slice AX X.length cX), .own X, .eq (.slice AY Y.length cY), .ints (X ++ Y), .tup F3 0, .tup F3 0, .ints F3, .eq (.int .i64 0), .ints F3, .eq (.int .i64 0)] : List FP).getD j FP.any).holds v10.heap.size v O W) (by kernel_rfl) (by kernel_rfl) (dm_inj (by kernel_rfl)) (fun j v O W W' _ _ h hs h1 h2 => FP.keep rfl h1 h2 hs h) (dm_lt (n := 203) (by kernel_rfl)) (Nat.le_refl _) (Below.refl _ _).drew ?_ ?_
        · intro O ls q o a w2 hq ho hS hbw hls hP hpre hdj
          have hcases : q = 0 ∨ q = 1 ∨ q = 2 ∨ q = 3 ∨ q = 4 ∨ q = 5 ∨ q = 6 ∨ q = 7 ∨ q = 8 ∨ q = 9 ∨ q = 10 ∨ q = 11 ∨ q = 12 ∨ q = 13 := by
            have : q < 14 := hq
            omega
          rcases hcases with rfl | rfl | rfl | rfl | rfl | rfl | rfl | rfl | rfl | rfl | rfl | rfl | rfl | rfl
          · obtain rfl := Option.some.inj ho
            exact wpOpIn_of rfl rfl (wpW_val (r_fld (.tmp 12) _ rfl (hP.out 12 (dm_out (by kernel_rfl))) (by kernel_rfl)) ⟨_, _, rfl, hS, (fun h => by simp at h), Step.same, rfl⟩)
          · obtain rfl := Option.some.inj ho
            exact wpOpIn_of rfl rfl (wpW_val (r_load1 3 agg3 (.tmp 120) ⟨B, 0, none⟩ rfl (hpre 0 (by decide) rfl).1 (HV.out _ (bl3 HR7.out hS)).2.2.2.1) ⟨_, _, rfl, hS, (fun h => by simp at h), Step.same, rfl⟩)
          · obtain rfl := Option.some.inj ho
            exact wpOpIn_of rfl rfl (wpW_val (r_move (.tmp 13) rfl (hP.out 13 (dm_out (by kernel_rfl)))) ⟨_, _, rfl, hS, (fun h => by simp at h), Step.same, rfl⟩)
          · obtain rfl := Option.some.inj ho
            have hal : Below w2.heap.size w2 (w2.alloc (.cells #[] 3)) := (Below.refl _ _).alloc (Nat.le_refl _) _
            exact wpOpIn_of rfl rfl (wpW_val (r_bs25_0 rfl) ⟨_, _, rfl, hS.trans (hal.mono hS.size), (fun h => by simp at h), Step.below hal, own_start hbw⟩)
          · obtain rfl := Option.some.inj ho
            exact wpOpIn_of rfl rfl (wpW_val (r_move (.tmp 17) rfl (hP.out 17 (dm_out (by kernel_rfl)))) ⟨_, _, rfl, hS, (fun h => by simp at h), Step.same, rfl⟩)
          · obtain rfl := Option.some.inj ho
            obtain ⟨A', c', w', hr, hg, hb, hf⟩ := FP.app_ints (ty := 25) Try.underlying25 (hpre 3 (by decide) rfl).1 ((HV.out _ (bl3 HR7.out hS))).1 (by simp) (by have := HXL.out.1; omega) hbw
            rw [List.nil_append] at hr hf
            exact wpOpIn_of rfl rfl (wpW_val (r_app (.tmp 123) (.tmp 124) 25 rfl rfl (hpre 4 (by decide) rfl).1 hr) ⟨_, _, rfl, grown_below rfl hS hg (fun r hr => (hb r hr).2), (fun h => by simp at h), Step.grown hg (fun r hr => ⟨3, by decide, rfl, rfl, (hb r hr).1⟩), hf _ (fun q h1 h2 => Mx.of (j := 3) (by decide) rfl (fun _ => rfl) h1 (Nat.lt_of_lt_of_le h2 hg.size)) (fun q h1 h2 => Mx.fresh h1 h2)⟩)
          · obtain rfl := Option.some.inj ho
            exact wpOpIn_of rfl rfl (wpW_val (r_move (.tmp 18) rfl (hP.out 18 (dm_out (by kernel_rfl)))) ⟨_, _, rfl, hS, (fun h => by simp at h), Step.same, rfl⟩)
          · obtain rfl := Option.some.inj ho
            obtain ⟨A', c', w', hr, hg, hb, hf⟩ := FP.app_ints (ty := 25) Try.underlying25 (hpre 5 (by decide) rfl).1 ((HV.out _ (bl3 HR7.out hS))).2.1 (by have := HXL.out.1; omega) (by have := HXL.out.2; omega) hbw
            exact wpOpIn_of rfl rfl (wpW_val (r_app (.tmp 125) (.tmp 126) 25 rfl rfl (hpre 6 (by decide) rfl).1 hr) ⟨_, _, rfl, grown_below rfl hS hg (fun r hr => (hb r hr).2), (fun h => by simp at h), Step.grown hg (fun r hr => ⟨5, by decide, rfl, rfl, (hb r hr).1⟩), FP.ints_of_own (hf _ (fun q h1 h2 => Mx.of (j := 5) (by decide) rfl (by decide) h1 (Nat.lt_of_lt_of_le h2 hg.size)) (fun q h1 h2 => Mx.fresh h1 h2)) HFX.out.2.2 (fun _ h => h)⟩)
          · obtain rfl := Option.some.inj ho
            obtain ⟨A, q, e7, i7⟩ := (hpre 7 (by decide) rfl).1
            exact wpOpIn_of rfl rfl (wpW_call (R := fun v w' => (∃ A c, v = .tuple #[.slice A F3.length c, .int .i64 0] ∧ IntsAt w' (.slice A F3.length c) F3 ∧ OwnI w2.heap.size w' (.slice A F3.length c) F3) ∧ Below w2.heap.size w2 w') (r_call4 (.tmp 121) (.tmp 122) (.const (.int .i64 0)) (.tmp 127) _ _ _ _ _ rfl (hpre 1 (by decide) rfl).1 (hpre 2 (by decide) rfl).1 rfl e7 call20) ((H20Z.out w2 _ _ (HV.out _ (bl3 HR7.out hS)).2.2.1 i7.at_).mono fun e w' ⟨⟨A, c, he, hi⟩, hb⟩ => ⟨_, he, ⟨A, c, rfl, hi⟩, hb⟩)
              (fun v w'' ⟨⟨A, c, hv, hi⟩, hb⟩ => ⟨v, _, rfl, hS.trans (hb.mono hS.size), (fun h => by simp at h), Step.below hb, tup_new_own hv hi.2 HF3.out⟩))
          · obtain rfl := Option.some.inj ho
            have k := hpre 8 (by decide) rfl
            exact wpOpIn_of rfl rfl (wpW_val (r_move (.tmp 128) rfl rfl) ⟨_, _, rfl, hS, (fun h => by simp at h), Step.same, FP.mono (fun q hq => Mx.of (j := 8) (by decide) rfl (by decide) hq (k.2 q hq).2) k.1⟩)
          · obtain rfl := Option.some.inj ho
            have k := hpre 9 (by decide) rfl
            obtain ⟨A, q, e9, i9⟩ := k.1
            exact wpOpIn_of rfl rfl (wpW_val (r_extract 0 (.tmp 119) _ rfl e9 rfl) ⟨_, _, rfl, hS, (fun h => by simp at h), Step.same, A, q, rfl, i9.mono fun q hq => hq.imp id fun h => Mx.of (j := 9) (by decide) rfl (by decide) h (k.2 q h).2⟩)
          · obtain rfl := Option.some.inj ho
            obtain ⟨A, q, e9, -⟩ := (hpre 9 (by decide) rfl).1
            exact wpOpIn_of rfl rfl (wpW_val (r_extract 1 (.tmp 119) _ rfl e9 rfl) ⟨_, _, rfl, hS, (fun h => by simp at h), Step.same, rfl⟩)
          · obtain rfl := Option.some.inj ho
            have k := hpre 10 (by decide) rfl
            exact wpOpIn_of rfl rfl (wpW_val (r_assign (.tmp 129) rfl rfl) ⟨_, _, rfl, hS, (fun h => by simp at h), Step.same, FP.mono (fun q hq => Mx.of (j := 10) (by decide) rfl (by decide) hq (k.2 q hq).2) k.1⟩)
          · obtain rfl := Option.some.inj ho
            exact wpOpIn_of rfl rfl (wpW_val (r_assign (.tmp 130) rfl (hpre 11 (by decide) rfl).1) ⟨_, _, rfl, hS, (fun h => by simp at h), Step.same, rfl⟩)
        · intro O ls a w2 hall hS hbw hP hsl
          obtain ⟨vs, hvs, hfr⟩ := hP.frame 203 rfl
          obtain ⟨A26, c26, e26', i26⟩ := (hsl 12 (by decide) (.inl rfl)).1
          have e26 : a.tmps.getD 26 undef = .slice A26 F3.length c26 := e26'
          have e27 : a.tmps.getD 27 undef = .int .i64 0 := (hsl 13 (by decide) (.inl rfl)).1
          rw [← hvs] at e26 e27
          have HR11 := Lib.hid (bl3 HR7.out hS)
          have hi26 := i26.at_
          have HI26 : Hid (∀ V, Below w2.heap.size w2 V → IntsAt V (.slice A26 F3.length c26) F3 ∧ IntsAt V (.slice A9 F1.length c9) F1 ∧ IntsAt V (.slice A10 F2.length c10) F2) := Lib.hid fun V h => ⟨hi26.below h, HI910.out.below (bl3 hS h), HI10.out.below (bl3 hS h)⟩
          clear e26' i26 hi26 HI910 HI10 HR7 H20Z
          clear hsl hP hall hS hvs hbw
          subst hfr
          dsimp only
          simp only [List.range, List.range.loop, List.map_cons, List.map_nil, List.any_cons, List.any_nil, Nat.reduceBEq, Option.some_beq_some, Bool.or_false, Bool.false_or, Bool.false_eq_true, if_true, if_false, List.getD_cons_zero, List.getD_cons_succ, e26, e27]
          rename World => w11
          go_wp2_with fail
          refine (H41.out _ _ _ (HI26.out _ (Below.refl _ _)).2.1 (HI26.out _ (Below.refl _ _)).2.2).mono ?_
          rintro e v12 ⟨⟨A12, c12, rfl, hi⟩, hb⟩
          have HR12 := Lib.hid hb
          have HI12 := Lib.hid hi
          clear hi hb H41
          go_wp2_with fail
          refine (H23.out _ _ _ _ (HI26.out _ HR12.out).1 HI12.out).mono ?_
          rintro e v13 ⟨rfl, hb⟩
          have HR13 := Lib.hid (bl3 HR12.out hb)
          clear hb HR12 HI12
          by_cases hf : f = 0
          · have hf1 : ((f : Int) == 0) = true := by simp [hf]
            have HBW' := Lib.hid (HBW.out hf)
            unfold SubstPost at HBW'
            clear hf HBW
            go_wp2_with fail
            refine (HBW'.out _ _ _ (HI26.out _ HR13.out).1 (HV.out _ (bl3 HR11.out HR13.out)).2.2.2.2.2).mono ?_
            rintro e v14 ⟨⟨A14, c14, rfl, hi⟩, hb⟩
            have HR14 := Lib.hid (bl3 HR13.out hb)
            have HI14 := Lib.hid hi
            clear hi hb HBW'
            go_wp2_with fail
            refine (H41B.out _ _ _ (HV.out _ (bl3 HR11.out HR14.out)).1 (HV.out _ (bl3 HR11.out HR14.out)).2.1).mono ?_
            rintro e v15 ⟨⟨A15, c15, rfl, hi⟩, hb⟩
            have HR15 := Lib.hid (bl3 HR14.out hb)
            have HI15 := Lib.hid hi
            have HI14' := Lib.hid (HI14.out.below hb)
            clear hi hb H41B HI14 HR14
            go_wp2_with fail
            refine (H23.out _ _ _ _ HI14'.out HI15.out).mono ?_
            rintro e v16 ⟨rfl, hb⟩
            have HRZ := Lib.hid (bl3 HR15.out hb)
            clear hb HR15 HI15 HI14' HR13
            have HVZ : Hid (∀ V, Below v16.heap.size v16 V → Tab V (.slice A4 T.length c4) T ∧ V.cell? ⟨B, 0, none⟩ = some (.int .i64 (g : Int)) ∧ Below w.heap.size w V ∧ Tab V (.slice A5 G.length c5) G) := Lib.hid fun V h => (HV.out _ (bl3 HR11.out (bl3 HRZ.out h))).2.2
            clear HV HR11 HRZ HI26
            go_wp2_with fail
            clear hf1
            go_loopw [30] (fun i wr => ∃ k : Nat, i = .int .i64 (k : Int) ∧ k ≤ G.length ∧ Hid (Below v16.heap.size v16 wr)) (fun i _ => G.length - (intOf i).toNat)
            case atStart => exact ⟨0, rfl, Nat.zero_le _, Lib.hid (Below.refl _ _)⟩
            case round =>
              obtain ⟨k, rfl, hk, HBk⟩ := hrel
              have hk0 : (0 : Int) ≤ (k : Int) := Int.natCast_nonneg _
              by_cases hlt : k < G.length
              · have hlt' : (k : Int) < (G.length : Int) := by omega
                have HVK : Hid (∀ V, Below wr.heap.size wr V → Tab V (.slice A4 T.length c4) T ∧ V.cell? ⟨B, 0, none⟩ = some (.int .i64 (g : Int))) := Lib.hid fun V h => ⟨(HVZ.out _ (bl3 HBk.out h)).1, (HVZ.out _ (bl3 HBk.out h)).2.1⟩
                obtain ⟨Aq, cq, eq, -, -, hcc⟩ := LAt.open_ (HVZ.out _ HBk.out).2.2.2
                obtain ⟨bg, og, rfl, hrow⟩ := (by obtain ⟨rfl, -, rfl⟩ := Value.slice.inj eq; exact hcc (by omega) : ∃ b off, A5 = some ⟨b, off, none⟩ ∧ ∀ k, k < G.length → ∃ u, wr.cell? ⟨b, off + k, none⟩ = some u ∧ IntsAt wr u (G.getD k []))
                obtain ⟨u, hu, hiu⟩ := hrow k hlt
                obtain ⟨Au, cu, rfl, -, -, -⟩ := hiu.open_
                have HCK : Hid (∀ V, Below wr.heap.size wr V → V.cell? ⟨bg, og + k, none⟩ = some (.slice Au (G.getD k []).length cu) ∧ IntsAt V (.slice Au (G.getD k []).length cu) (G.getD k [])) := Lib.hid fun V h => ⟨(h.cell (p := ⟨bg, og + k, none⟩) (World.block_lt_of_cell? wr _ hu)).trans hu, hiu.below h⟩
                have H20k := Lib.hid (H20G.out k hlt)
                have HLT := Lib.hid hlt
                have HFK : Hid (Fits [(k : Int) + 1]) := Lib.hid fun y hy => by rw [List.mem_singleton.1 hy]; omega
                clear hu hiu hrow hcc eq
                generalize G.getD k [] = row at *
                go_wp2_with fail
                refine (wpIn_wide (n := 3)).1 ?_
                refine wpIn_region_own (by kernel_rfl) 13 rfl (fun i => ([some 182, some 183, some 184, some 185, some 186, some 187, some 188, some 189, some 181, some 190, some 191, some 31, some 32] : List (Option Nat)).getD i none) (lex_of (by kernel_rfl)) wr.heap.size (fun i => ([] : List Nat).contains i) (fun i j => (([[], [0], [], [], [], [3, 4], [5], [1, 2, 6], [7], [8], [8], [9], [10]] : List (List Nat)).getD i []).contains j) (fun W => Below wr.heap.size wr W) (fun j v O W => (([.eq (.pointer (some ⟨B, 0, none⟩)), .eq (.int .i64 (g : Int)), .eq (.slice A4 T.length c4), .eq (.slice (some ⟨bg, og, none⟩) G.length c5), .eq (.int .i64 (k : Int)), .eq (.pointer (some ⟨bg, og + k, none⟩)), .eq (.slice Au row.length cu), .tup [(k : Int) + 1] 0, .tup [(k : Int) + 1] 0, .ints [(k : Int) + 1], .eq (.int .i64 0), .ints [(k : Int) + 1], .eq (.int .i64 0)] : List FP).getD j FP.any).holds wr.heap.size v O W) (by kernel_rfl) (by kernel_rfl) (dm_inj (by kernel_rfl)) (fun j v O W W' _ _ h hs h1 h2 => FP.keep rfl h1 h2 hs h) (dm_lt (n := 203) (by kernel_rfl)) (Nat.le_refl _) (Below.refl _ _).drew ?_ ?_
                · intro O ls q o a w2 hq ho hS hbw hls hP hpre hdj
                  have hcases : q = 0 ∨ q = 1 ∨ q = 2 ∨ q = 3 ∨ q = 4 ∨ q = 5 ∨ q = 6 ∨ q = 7 ∨ q = 8 ∨ q = 9 ∨ q = 10 ∨ q = 11 ∨ q = 12 := by
                    have : q < 13 := hq
                    omega
                  rcases hcases with rfl | rfl | rfl | rfl | rfl | rfl | rfl | rfl | rfl | rfl | rfl | rfl | rfl
                  · obtain rfl := Option.some.inj ho
                    exact wpOpIn_of rfl rfl (wpW_val (r_fld (.tmp 12) _ rfl (hP.out 12 (dm_out (by kernel_rfl))) (by kernel_rfl)) ⟨_, _, rfl, hS, (fun h => by simp at h), Step.same, rfl⟩)
                  · obtain rfl := Option.some.inj ho
                    exact wpOpIn_of rfl rfl (wpW_val (r_load1 3 agg3 (.tmp 182) ⟨B, 0, none⟩ rfl (hpre 0 (by decide) rfl).1 (HVK.out _ hS).2) ⟨_, _, rfl, hS, (fun h => by simp at h), Step.same, rfl⟩)
                  · obtain rfl := Option.some.inj ho
                    exact wpOpIn_of rfl rfl (wpW_val (r_move (.tmp 13) rfl (hP.out 13 (dm_out (by kernel_rfl)))) ⟨_, _, rfl, hS, (fun h => by simp at h), Step.same, rfl⟩)
                  · obtain rfl := Option.some.inj ho
                    exact wpOpIn_of rfl rfl (wpW_val (r_move (.tmp 15) rfl (hP.out 15 (dm_out (by kernel_rfl)))) ⟨_, _, rfl, hS, (fun h => by simp at h), Step.same, rfl⟩)
                  · obtain rfl := Option.some.inj ho
                    exact wpOpIn_of rfl rfl (wpW_val (r_move (.tmp 30) rfl (hP.out 30 (dm_out (by kernel_rfl)))) ⟨_, _, rfl, hS, (fun h => by simp at h), Step.same, rfl⟩)
                  · obtain rfl := Option.some.inj ho
                    exact wpOpIn_of rfl rfl (wpW_val (r_idx (.tmp 185) (.tmp 186) _ _ rfl (hpre 3 (by decide) rfl).1 (hpre 4 (by decide) rfl).1 (idx_offs Try.underlying31 size25 bg og G.length c5 k HLT.out _)) ⟨_, _, rfl, hS, (fun h => by simp at h), Step.same, rfl⟩)
                  · obtain rfl := Option.some.inj ho
                    exact wpOpIn_of rfl rfl (wpW_val (r_load1 25 agg25 (.tmp 187) ⟨bg, og + k, none⟩ rfl (hpre 5 (by decide) rfl).1 (HCK.out _ hS).1) ⟨_, _, rfl, hS, (fun h => by simp at h), Step.same, rfl⟩)
                  · obtain rfl := Option.some.inj ho
                    exact wpOpIn_of rfl rfl (wpW_call (R := fun v w' => (∃ A c, v = .tuple #[.slice A 1 c, .int .i64 0] ∧ IntsAt w' (.slice A 1 c) [(k : Int) + 1] ∧ OwnI w2.heap.size w' (.slice A 1 c) [(k : Int) + 1]) ∧ Below w2.heap.size w2 w') (r_call4 (.tmp 183) (.tmp 184) (.const (.int .i64 0)) (.tmp 188) _ _ _ _ _ rfl (hpre 1 (by decide) rfl).1 (hpre 2 (by decide) rfl).1 rfl (hpre 6 (by decide) rfl).1 call20) ((H20k.out w2 _ _ (HVK.out _ hS).1 (HCK.out _ hS).2).mono fun e w' ⟨⟨A, c, he, hi⟩, hb⟩ => ⟨_, he, ⟨A, c, rfl, hi⟩, hb⟩)
                      (fun v w'' ⟨⟨A, c, hv, hi⟩, hb⟩ => ⟨v, _, rfl, hS.trans (hb.mono hS.size), (fun h => by simp at h), Step.below hb, tup_new_own hv hi.2 HFK.out⟩))
                  · obtain rfl := Option.some.inj ho
                    have k := hpre 7 (by decide) rfl
                    exact wpOpIn_of rfl rfl (wpW_val (r_move (.tmp 189) rfl rfl) ⟨_, _, rfl, hS, (fun h => by simp at h), Step.same, FP.mono (fun q hq => Mx.of (j := 7) (by decide) rfl (by decide) hq (k.2 q hq).2) k.1⟩)
                  · obtain rfl := Option.some.inj ho
                    have k := hpre 8 (by decide) rfl
                    obtain ⟨A, q, e9, i9⟩ := k.1
                    exact wpOpIn_of rfl rfl (wpW_val (r_extract 0 (.tmp 181) _ rfl e9 rfl) ⟨_, _, rfl, hS, (fun h => by simp at h), Step.same, A, q, rfl, i9.mono fun q hq => hq.imp id fun h => Mx.of (j := 8) (by decide) rfl (by decide) h (k.2 q h).2⟩)
                  · obtain rfl := Option.some.inj ho
                    obtain ⟨A, q, e9, -⟩ := (hpre 8 (by decide) rfl).1
                    exact wpOpIn_of rfl rfl (wpW_val (r_extract 1 (.tmp 181) _ rfl e9 rfl) ⟨_, _, rfl, hS, (fun h => by simp at h), Step.same, rfl⟩)
                  · obtain rfl := Option.some.inj ho
                    have k := hpre 9 (by decide) rfl
                    exact wpOpIn_of rfl rfl (wpW_val (r_assign (.tmp 190) rfl rfl) ⟨_, _, rfl, hS, (fun h => by simp at h), Step.same, FP.mono (fun q hq => Mx.of (j := 9) (by decide) rfl (by decide) hq (k.2 q hq).2) k.1⟩)
                  · obtain rfl := Option.some.inj ho
                    exact wpOpIn_of rfl rfl (wpW_val (r_assign (.tmp 191) rfl (hpre 10 (by decide) rfl).1) ⟨_, _, rfl, hS, (fun h => by simp at h), Step.same, rfl⟩)
                · intro O ls a w2 hall hS hbw hP hsl
                  obtain ⟨vs, hvs, hfr⟩ := hP.frame 203 rfl
                  obtain ⟨A31, c31, e31', i31⟩ := (hsl 11 (by decide) (.inl rfl)).1
                  have e31 : a.tmps.getD 31 undef = .slice A31 1 c31 := e31'
                  have e32 : a.tmps.getD 32 undef = .int .i64 0 := (hsl 12 (by decide) (.inl rfl)).1
                  rw [← hvs] at e31 e32
                  have HR31 := Lib.hid hS
                  have hi31 := i31.at_
                  have HI31 := Lib.hid hi31
                  clear e31' i31 hi31
                  clear hsl hP hall hS hvs hbw
                  subst hfr
                  dsimp only
                  simp only [List.range, List.range.loop, List.map_cons, List.map_nil, List.any_cons, List.any_nil, Nat.reduceBEq, Option.some_beq_some, Bool.or_false, Bool.false_or, Bool.false_eq_true, if_true, if_false, List.getD_cons_zero, List.getD_cons_succ, e31, e32]
                  rename World => wq
                  have hal := (Below.refl wq.heap.size wq).alloc (Nat.le_refl _) (.cells #[.int .i64 ((k : Int) + 1)] 3)
                  have HA1 := Lib.hid (HI31.out.below hal)
                  have HA2 := Lib.hid (ints_one wq ((k : Int) + 1) (by omega))
                  have HA3 := Lib.hid (bl3 HBk.out (bl3 HR31.out hal))
                  clear hal
                  go_wp2_with fail
                  refine (H23.out _ _ _ _ HA1.out HA2.out).mono ?_
                  rintro e v20 ⟨rfl, hb⟩
                  have HA4 := Lib.hid (bl3 HA3.out hb)
                  clear hb
                  go_wp2_with fail
                  go_roundw
                  case rel => exact ⟨k + 1, by go_num, by omega, HA4⟩
                  case measure => simp [intOf]; omega
              · obtain rfl : k = G.length := by omega
                go_wp2_with fail
                go_ret
                exact ⟨rfl, (HVZ.out _ HBk.out).2.2.1⟩

          · have hf1 : ((f : Int) == 0) = false := by rw [beq_eq_false_iff_ne]; omega
            have HRZ := Lib.hid HR13.out
            clear hf HBW H41B HR13
            have HVZ : Hid (∀ V, Below v13.heap.size v13 V → Tab V (.slice A4 T.length c4) T ∧ V.cell? ⟨B, 0, none⟩ = some (.int .i64 (g : Int)) ∧ Below w.heap.size w V ∧ Tab V (.slice A5 G.length c5) G) := Lib.hid fun V h => (HV.out _ (bl3 HR11.out (bl3 HRZ.out h))).2.2
            clear HV HR11 HRZ HI26
            go_wp2_with fail
            clear hf1
            go_loopw [30] (fun i wr => ∃ k : Nat, i = .int .i64 (k : Int) ∧ k ≤ G.length ∧ Hid (Below v13.heap.size v13 wr)) (fun i _ => G.length - (intOf i).toNat)
            case atStart => exact ⟨0, rfl, Nat.zero_le _, Lib.hid (Below.refl _ _)⟩
            case round =>
              obtain ⟨k, rfl, hk, HBk⟩ := hrel
              have hk0 : (0 : Int) ≤ (k : Int) := Int.natCast_nonneg _
              by_cases hlt : k < G.length
              · have hlt' : (k : Int) < (G.length : Int) := by omega
                have HVK : Hid (∀ V, Below wr.heap.size wr V → Tab V (.slice A4 T.length c4) T ∧ V.cell? ⟨B, 0, none⟩ = some (.int .i64 (g : Int))) := Lib.hid fun V h => ⟨(HVZ.out _ (bl3 HBk.out h)).1, (HVZ.out _ (bl3 HBk.out h)).2.1⟩
                obtain ⟨Aq, cq, eq, -, -, hcc⟩ := LAt.open_ (HVZ.out _ HBk.out).2.2.2
                obtain ⟨bg, og, rfl, hrow⟩ := (by obtain ⟨rfl, -, rfl⟩ := Value.slice.inj eq; exact hcc (by omega) : ∃ b off, A5 = some ⟨b, off, none⟩ ∧ ∀ k, k < G.length → ∃ u, wr.cell? ⟨b, off + k, none⟩ = some u ∧ IntsAt wr u (G.getD k []))
                obtain ⟨u, hu, hiu⟩ := hrow k hlt
                obtain ⟨Au, cu, rfl, -, -, -⟩ := hiu.open_
                have HCK : Hid (∀ V, Below wr.heap.size wr V → V.cell? ⟨bg, og + k, none⟩ = some (.slice Au (G.getD k []).length cu) ∧ IntsAt V (.slice Au (G.getD k []).length cu) (G.getD k [])) := Lib.hid fun V h => ⟨(h.cell (p := ⟨bg, og + k, none⟩) (World.block_lt_of_cell? wr _ hu)).trans hu, hiu.below h⟩
                have H20k := Lib.hid (H20G.out k hlt)
                have HLT := Lib.hid hlt
                have HFK : Hid (Fits [(k : Int) + 1]) := Lib.hid fun y hy => by rw [List.mem_singleton.1 hy]; omega
                clear hu hiu hrow hcc eq
                generalize G.getD k [] = row at *
                go_wp2_with fail
                refine (wpIn_wide (n := 3)).1 ?_
                refine wpIn_region_own (by kernel_rfl) 13 rfl (fun i => ([some 182, some 183, some 184, some 185, some 186, some 187, some 188, some 189, some 181, some 190, some 191, some 31, some 32] : List (Option Nat)).getD i none) (lex_of (by kernel_rfl)) wr.heap.size (fun i => ([] : List Nat).contains i) (fun i j => (([[], [0], [], [], [], [3, 4], [5], [1, 2, 6], [7], [8], [8], [9], [10]] : List (List Nat)).getD i []).contains j) (fun W => Below wr.heap.size wr W) (fun j v O W => (([.eq (.pointer (some ⟨B, 0, none⟩)), .eq (.int .i64 (g : Int)), .eq (.slice A4 T.length c4), .eq (.slice (some ⟨bg, og, none⟩) G.length c5), .eq (.int .i64 (k : Int)), .eq (.pointer (some ⟨bg, og + k, none⟩)), .eq (.slice Au row.length cu), .tup [(k : Int) + 1] 0, .tup [(k : Int) + 1] 0, .ints [(k : Int) + 1], .eq (.int .i64 0), .ints [(k : Int) + 1], .eq (.int .i64 0)] : List FP).getD j FP.any).holds wr.heap.size v O W) (by kernel_rfl) (by kernel_rfl) (dm_inj (by kernel_rfl)) (fun j v O W W' _ _ h hs h1 h2 => FP.keep rfl h1 h2 hs h) (dm_lt (n := 203) (by kernel_rfl)) (Nat.le_refl _) (Below.refl _ _).drew ?_ ?_
                · intro O ls q o a w2 hq ho hS hbw hls hP hpre hdj
                  have hcases : q = 0 ∨ q = 1 ∨ q = 2 ∨ q = 3 ∨ q = 4 ∨ q = 5 ∨ q = 6 ∨ q = 7 ∨ q = 8 ∨ q = 9 ∨ q = 10 ∨ q = 11 ∨ q = 12 := by
                    have : q < 13 := hq
                    omega
                  rcases hcases with rfl | rfl | rfl | rfl | rfl | rfl | rfl | rfl | rfl | rfl | rfl | rfl | rfl
                  · obtain rfl := Option.some.inj ho
                    exact wpOpIn_of rfl rfl (wpW_val (r_fld (.tmp 12) _ rfl (hP.out 12 (dm_out (by kernel_rfl))) (by kernel_rfl)) ⟨_, _, rfl, hS, (fun h => by simp at h), Step.same, rfl⟩)
                  · obtain rfl := Option.some.inj ho
                    exact wpOpIn_of rfl rfl (wpW_val (r_load1 3 agg3 (.tmp 182) ⟨B, 0, none⟩ rfl (hpre 0 (by decide) rfl).1 (HVK.out _ hS).2) ⟨_, _, rfl, hS, (fun h => by simp at h), Step.same, rfl⟩)
                  · obtain rfl := Option.some.inj ho
                    exact wpOpIn_of rfl rfl (wpW_val (r_move (.tmp 13) rfl (hP.out 13 (dm_out (by kernel_rfl)))) ⟨_, _, rfl, hS, (fun h => by simp at h), Step.same, rfl⟩)
                  · obtain rfl := Option.some.inj ho
                    exact wpOpIn_of rfl rfl (wpW_val (r_move (.tmp 15) rfl (hP.out 15 (dm_out (by kernel_rfl)))) ⟨_, _, rfl, hS, (fun h => by simp at h), Step.same, rfl⟩)
                  · obtain rfl := Option.some.inj ho
                    exact wpOpIn_of rfl rfl (wpW_val (r_move (.tmp 30) rfl (hP.out 30 (dm_out (by kernel_rfl)))) ⟨_, _, rfl, hS, (fun h => by simp at h), Step.same, rfl⟩)
                  · obtain rfl := Option.some.inj ho
                    exact wpOpIn_of rfl rfl (wpW_val (r_idx (.tmp 185) (.tmp 186) _ _ rfl (hpre 3 (by decide) rfl).1 (hpre 4 (by decide) rfl).1 (idx_offs Try.underlying31 size25 bg og G.length c5 k HLT.out _)) ⟨_, _, rfl, hS, (fun h => by simp at h), Step.same, rfl⟩)
                  · obtain rfl := Option.some.inj ho
                    exact wpOpIn_of rfl rfl (wpW_val (r_load1 25 agg25 (.tmp 187) ⟨bg, og + k, none⟩ rfl (hpre 5 (by decide) rfl).1 (HCK.out _ hS).1) ⟨_, _, rfl, hS, (fun h => by simp at h), Step.same, rfl⟩)
                  · obtain rfl := Option.some.inj ho
                    exact wpOpIn_of rfl rfl (wpW_call (R := fun v w' => (∃ A c, v = .tuple #[.slice A 1 c, .int .i64 0] ∧ IntsAt w' (.slice A 1 c) [(k : Int) + 1] ∧ OwnI w2.heap.size w' (.slice A 1 c) [(k : Int) + 1]) ∧ Below w2.heap.size w2 w') (r_call4 (.tmp 183) (.tmp 184) (.const (.int .i64 0)) (.tmp 188) _ _ _ _ _ rfl (hpre 1 (by decide) rfl).1 (hpre 2 (by decide) rfl).1 rfl (hpre 6 (by decide) rfl).1 call20) ((H20k.out w2 _ _ (HVK.out _ hS).1 (HCK.out _ hS).2).mono fun e w' ⟨⟨A, c, he, hi⟩, hb⟩ => ⟨_, he, ⟨A, c, rfl, hi⟩, hb⟩)
                      (fun v w'' ⟨⟨A, c, hv, hi⟩, hb⟩ => ⟨v, _, rfl, hS.trans (hb.mono hS.size), (fun h => by simp at h), Step.below hb, tup_new_own hv hi.2 HFK.out⟩))
                  · obtain rfl := Option.some.inj ho
                    have k := hpre 7 (by decide) rfl
                    exact wpOpIn_of rfl rfl (wpW_val (r_move (.tmp 189) rfl rfl) ⟨_, _, rfl, hS, (fun h => by simp at h), Step.same, FP.mono (fun q hq => Mx.of (j := 7) (by decide) rfl (by decide) hq (k.2 q hq).2) k.1⟩)
                  · obtain rfl := Option.some.inj ho
                    have k := hpre 8 (by decide) rfl
                    obtain ⟨A, q, e9, i9⟩ := k.1
                    exact wpOpIn_of rfl rfl (wpW_val (r_extract 0 (.tmp 181) _ rfl e9 rfl) ⟨_, _, rfl, hS, (fun h => by simp at h), Step.same, A, q, rfl, i9.mono fun q hq => hq.imp id fun h => Mx.of (j := 8) (by decide) rfl (by decide) h (k.2 q h).2⟩)
                  · obtain rfl := Option.some.inj ho
                    obtain ⟨A, q, e9, -⟩ := (hpre 8 (by decide) rfl).1
                    exact wpOpIn_of rfl rfl (wpW_val (r_extract 1 (.tmp 181) _ rfl e9 rfl) ⟨_, _, rfl, hS, (fun h => by simp at h), Step.same, rfl⟩)
                  · obtain rfl := Option.some.inj ho
                    have k := hpre 9 (by decide) rfl
                    exact wpOpIn_of rfl rfl (wpW_val (r_assign (.tmp 190) rfl rfl) ⟨_, _, rfl, hS, (fun h => by simp at h), Step.same, FP.mono (fun q hq => Mx.of (j := 9) (by decide) rfl (by decide) hq (k.2 q hq).2) k.1⟩)
                  · obtain rfl := Option.some.inj ho
                    exact wpOpIn_of rfl rfl (wpW_val (r_assign (.tmp 191) rfl (hpre 10 (by decide) rfl).1) ⟨_, _, rfl, hS, (fun h => by simp at h), Step.same, rfl⟩)
                · intro O ls a w2 hall hS hbw hP hsl
                  obtain ⟨vs, hvs, hfr⟩ := hP.frame 203 rfl
                  obtain ⟨A31, c31, e31', i31⟩ := (hsl 11 (by decide) (.inl rfl)).1
                  have e31 : a.tmps.getD 31 undef = .slice A31 1 c31 := e31'
                  have e32 : a.tmps.getD 32 undef = .int .i64 0 := (hsl 12 (by decide) (.inl rfl)).1
                  rw [← hvs] at e31 e32
                  have HR31 := Lib.hid hS
                  have hi31 := i31.at_
                  have HI31 := Lib.hid hi31
                  clear e31' i31 hi31
                  clear hsl hP hall hS hvs hbw
                  subst hfr
                  dsimp only
                  simp only [List.range, List.range.loop, List.map_cons, List.map_nil, List.any_cons, List.any_nil, Nat.reduceBEq, Option.some_beq_some, Bool.or_false, Bool.false_or, Bool.false_eq_true, if_true, if_false, List.getD_cons_zero, List.getD_cons_succ, e31, e32]
                  rename World => wq
                  have hal := (Below.refl wq.heap.size wq).alloc (Nat.le_refl _) (.cells #[.int .i64 ((k : Int) + 1)] 3)
                  have HA1 := Lib.hid (HI31.out.below hal)
                  have HA2 := Lib.hid (ints_one wq ((k : Int) + 1) (by omega))
                  have HA3 := Lib.hid (bl3 HBk.out (bl3 HR31.out hal))
                  clear hal
                  go_wp2_with fail
                  refine (H23.out _ _ _ _ HA1.out HA2.out).mono ?_
                  rintro e v20 ⟨rfl, hb⟩
                  have HA4 := Lib.hid (bl3 HA3.out hb)
                  clear hb
                  go_wp2_with fail
                  go_roundw
                  case rel => exact ⟨k + 1, by go_num, by omega, HA4⟩
                  case measure => simp [intOf]; omega
              · obtain rfl : k = G.length := by omega
                go_wp2_with fail
                go_ret
                exact ⟨rfl, (HVZ.out _ HBk.out).2.2.1⟩
end Go.Proofs
