/- The contract of the law's awake. -/
import Derived.Test.YtnhoiompdjabbaaKn
import Derived.Test.YtnhoiompdjabbaaNew
import Derived.Test.YtnhoiompdjabbaaMul
import Derived.Test.YtnhoiompdjabbaaSm2
import Derived.Test.YtnhoiompdjabbaaDead
namespace Go.Proofs
open Go.RowKit Go.Proofs.Pc

theorem check_known0 : checkD (knownD 0) = (0, 0) := by decide +kernel
theorem cons_known0 : consB (knownD 0) = true := by decide +kernel
theorem take_a : takeErr (knownD 0) [0, 1, 0] = 0 := by decide +kernel
theorem take_b : takeErr (knownD 0) [1, 0, 0] = 0 := by decide +kernel
theorem mul_a : mulP (knownD 0) [0, 1, 0] [1, 0, 0] = [1, 1, 1] := by decide +kernel
theorem mul_b : mulP (knownD 0) [1, 0, 0] [1, 0, 0] = [0, 0, 1] := by decide +kernel
theorem prod_known0 : prod (knownD 0) (knownD 0).n = 8 := by decide +kernel
theorem small_known0 : Small (knownD 0) := fun k hk => by
  have h : k ≤ 3 := hk
  have : k = 0 ∨ k = 1 ∨ k = 2 ∨ k = 3 := by omega
  rcases this with rfl | rfl | rfl | rfl <;> decide +kernel

theorem mul_eval {P : PcD} (hv : Valid P) {w : World} {bg br : Nat} (hg : GrpAt w bg br P) {s1 s2 : Value} {xs ys zs : List Int} (h1 : IntsAt w s1 xs) (h2 : IntsAt w s2 ys) (hx : takeErr P xs = 0) (hy : takeErr P ys = 0) (hz : mulP P xs ys = zs) :
    Calls Try.prog 29 #[.pointer (some ⟨bg, 0, none⟩), s1, s2] w fun e w' => ∃ A c, e = .returned (.tuple #[.slice A zs.length c, .int .i64 0]) ∧ IntsAt w' (.slice A zs.length c) zs ∧ Below w.heap.size w w' :=
  (mul_live hv w bg br hg.live hg.rules s1 s2 xs ys h1 h2 hx hy).mono fun e w' ⟨⟨u, he, hu⟩, hb⟩ => by
    have hm : mulErr P xs ys = 0 := by unfold mulErr; rw [if_pos hx, hy]
    rw [hm] at he
    rw [if_pos hm, hz] at hu
    obtain ⟨A, c, rfl, -⟩ := hu.open_
    exact ⟨A, c, he, hu, hb⟩
theorem two_allocs (w : World) (o1 o2 : Obj) : Below w.heap.size w ((w.alloc o1).alloc o2) := allocs_below [o1, o2] w _ (Nat.le_refl _)
theorem two_fst (w : World) (xs : List Int) (o2 : Obj) (hf : fitsB xs = true) (hl : xs.length ≤ 1000) (n : Nat) (hn : xs.length = n) : IntsAt ((w.alloc (.cells (xs.map (Value.int .i64)).toArray 3)).alloc o2) (.slice (some ⟨w.heap.size, 0, none⟩) n n) xs :=
  ints_lit xs (allocs_get [_, o2] w 0 _ rfl) hn (by omega) hf
theorem two_snd (w : World) (xs : List Int) (o1 : Obj) (hf : fitsB xs = true) (hl : xs.length ≤ 1000) (n : Nat) (hn : xs.length = n) : IntsAt ((w.alloc o1).alloc (.cells (xs.map (Value.int .i64)).toArray 3)) (.slice (some ⟨w.heap.size + 1, 0, none⟩) n n) xs :=
  ints_lit xs (allocs_get [o1, _] w 1 _ rfl) hn (by omega) hf
theorem one_ints (w : World) (xs : List Int) (hf : fitsB xs = true) (hl : xs.length ≤ 1000) (n : Nat) (hn : xs.length = n) : IntsAt (w.alloc (.cells (xs.map (Value.int .i64)).toArray 3)) (.slice (some ⟨w.heap.size, 0, none⟩) n n) xs :=
  ints_lit xs (heap_alloc_new w _) hn (by omega) hf

set_option maxRecDepth 100000 in
set_option maxHeartbeats 1000000 in
theorem awake_any (w : World) : Calls Try.prog 13 #[] w fun e w' => e = .returned (.bool true) ∧ Below w.heap.size w w' := by
  have hv : Valid (knownD 0) := valid_of_check (by rw [check_known0])
  have tok1 : True := trivial
  have tok2 : True := trivial
  have tok3 : True := trivial
  go_enter Try.func13, Try.ntmps13
  go_wp2_with (first
    | (go_at_call 28; (refine (known_0 _ 0 (by omega) rfl).mono ?_); rintro e w1 ⟨⟨u0, u1, u2, rfl, hp⟩, hb1⟩; have HP := Lib.hid hp; have HB1 := Lib.hid hb1; clear hp hb1)
    | (go_at_call 16; (refine (new_good _ _ _ _ _ HP.out (by rw [check_known0]) cons_known0).mono ?_); rintro e w2 ⟨⟨bg, br, rfl, hg, -⟩, hb2⟩; have HG := Lib.hid hg; have HB2 := Lib.hid (HB1.out.trans (hb2.mono HB1.out.size)); clear hg hb2)
    | (go_at_call 29
       have _t := tok1
       refine (mul_eval hv (HG.out.below (two_allocs _ _ _)) (two_fst w2 [0, 1, 0] _ rfl (by decide) 3 rfl) (two_snd w2 [1, 0, 0] _ rfl (by decide) 3 rfl) take_a take_b mul_a).mono ?_
       rintro e w3 ⟨A, c, rfl, hx, hb3⟩
       have hb3' : Below w2.heap.size w2 w3 := (two_allocs w2 _ _).trans (hb3.mono (two_allocs w2 _ _).size)
       have HG3 := Lib.hid (HG.out.below hb3')
       have HX := Lib.hid hx
       have HB3 := Lib.hid (HB2.out.trans (hb3'.mono HB2.out.size))
       clear hx hb3 hb3' tok1 _t)
    | (go_at_call 29
       have _t := tok2
       refine (mul_eval hv (HG3.out.below (two_allocs _ _ _)) (two_fst w3 [1, 0, 0] _ rfl (by decide) 3 rfl) (two_snd w3 [1, 0, 0] _ rfl (by decide) 3 rfl) take_b take_b mul_b).mono ?_
       rintro e w4 ⟨B, d, rfl, hy, hb4⟩
       have hb4' : Below w3.heap.size w3 w4 := (two_allocs w3 _ _).trans (hb4.mono (two_allocs w3 _ _).size)
       have HG4 := Lib.hid (HG3.out.below hb4')
       have HX4 := Lib.hid (HX.out.below hb4')
       have HY4 := Lib.hid hy
       have HB4 := Lib.hid (HB3.out.trans (hb4'.mono HB3.out.size))
       clear hy hb4 hb4' tok2 _t)
    | (go_at_call 18; (refine (order_live hv small_known0 _ bg br HG4.out.live HG4.out.rules).mono ?_); rintro e w5 ⟨rfl, rfl⟩; rw [prod_known0])
    | (go_at_call 31
       have _t := tok3
       refine (equal_yes _ _ _ [1, 1, 1] [1, 1, 1] (HX4.out.below ((Below.refl _ _).alloc (Nat.le_refl _) _)) (one_ints _ [1, 1, 1] rfl (by decide) 3 rfl) rfl).mono ?_
       rintro e w6 ⟨rfl, hb6⟩
       have hb6' := ((Below.refl _ _).alloc (Nat.le_refl _) _).trans (hb6.mono (by simp))
       have HY6 := Lib.hid (HY4.out.below hb6')
       have HB6 := Lib.hid (HB4.out.trans (hb6'.mono HB4.out.size))
       clear hb6 hb6' tok3 _t)
    | (go_at_call 31
       refine (equal_yes _ _ _ [0, 0, 1] [0, 0, 1] (HY6.out.below ((Below.refl _ _).alloc (Nat.le_refl _) _)) (one_ints _ [0, 0, 1] rfl (by decide) 3 rfl) rfl).mono ?_
       rintro e w7 ⟨rfl, hb7⟩
       have hb7' := ((Below.refl _ _).alloc (Nat.le_refl _) _).trans (hb7.mono (by simp))
       have HB7 := Lib.hid (HB6.out.trans (hb7'.mono HB6.out.size))
       clear hb7 hb7'))
  go_ret
  exact ⟨rfl, HB7.out⟩
end Go.Proofs
