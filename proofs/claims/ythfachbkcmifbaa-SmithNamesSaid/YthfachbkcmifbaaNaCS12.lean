/- SmithNames. -/
import Derived.Test.YthfachbkcmifbaaNaCS10
import Derived.Test.YthfachbkcmifbaaNaCS11
import Derived.Deep.CutRange
import Derived.Deep.CutBlock
import Derived.Deep.Light
namespace Go.Proofs
open Go.RowKit Go.Shelf Go.Proofs.Sm
theorem pfits_lit {ps : List Pr} (h : ∀ p ∈ ps, (-9000000000000000000 ≤ p.1 ∧ p.1 ≤ 9000000000000000000) ∧ (-9000000000000000000 ≤ p.2 ∧ p.2 ≤ 9000000000000000000)) : PFits ps := fun p hp => by
  obtain ⟨⟨a, b⟩, c, d⟩ := h p hp
  exact ⟨⟨by omega, by omega⟩, ⟨by omega, by omega⟩⟩
theorem lit3w_ok : ∀ x ∈ ([[1, 1], [1, 2, -1, -2], [2, 2, 2]] : List (List Int)), WordOk 2 x := by
  intro x hx
  refine wordOk_of ?_
  simp only [List.mem_cons, List.not_mem_nil, or_false] at hx
  rcases hx with rfl | rfl | rfl <;> decide
theorem wpList_valG {ops : Array Oper} {rest : List Oper} {o : Oper} {a : Act} {w w' : World} {Q : Exit → Act → World → Prop} {v : Value} (hg : Region.wanted o (yielded ops a.tmps) = true) (hrun : (execOp a.eval o).run Try.prog w = .ok (.value v) w') (h : wpList Try.prog ops Q rest (a.put o.dst v) w') : wpList Try.prog ops Q (o :: rest) a w :=
  BigFrame.wpList_want hg fun _ hK => by
    unfold Oper.wp
    rw [hrun]
    exact hK _ _ h
theorem row_push {w0 wr : World} {v : Value} {l : List (List Int)} {x : Int} (h : ∃ bl cs, MatM w0.heap.size wr v bl cs l) (hB : Below w0.heap.size w0 wr) (hl : l.length ≤ 1000) :
    ∃ A' c' w', (Builtin.append_ #[22, 22] 22 #[v, .slice (some ⟨wr.heap.size + 1, 0, none⟩) 1 1]).run Try.prog ((wr.alloc (.cells #[.int .i64 x] 3)).alloc (.cells #[.slice (some ⟨wr.heap.size, 0, none⟩) 1 1] 25)) = .ok (.slice A' (l.length + 1) c') w' ∧ Hid ((∃ bl cs, MatM w0.heap.size w' (.slice A' (l.length + 1) c') bl cs (l ++ [[x]])) ∧ Below w0.heap.size w0 w') := by
  obtain ⟨bl, cs, hM⟩ := h
  have hb : Below wr.heap.size wr (wr.alloc (.cells #[.int .i64 x] 3)) := (Below.refl _ _).alloc (Nat.le_refl _) _
  have hXs : XsAt (wr.alloc (.cells #[.int .i64 x] 3)) wr.heap.size [x] := ⟨_, heap_alloc_new wr _, Nat.le_refl _, fun k hk => by
    have : k = 0 := by simpa using hk
    subst this
    rfl⟩
  obtain ⟨A', c', w', p1, p2, p3⟩ := (hM.keep hb).push (g := wr.heap.size) (c := 1) (Nat.le_trans hB.size hb.size) hXs hB.size (Nat.le_refl _) (by omega) (fun i hi e => by have := hM.lt.1 i hi; omega) (by omega)
  rw [World.size_alloc] at p1
  exact ⟨A', c', w', p1, Lib.hid ⟨p2, (hB.trans (hb.mono hB.size)).grown p3 (Nat.le_trans hB.size hb.size) fun r hr => (owns_block hM.out r hr).1⟩⟩
theorem rep_fits : ∀ y ∈ List.replicate 100 ([1000000] : List Int), Fits y := fun y hy => by
  rw [(List.mem_replicate.1 hy).2]
  exact fits_lit (by decide)
theorem check_rep : checkE 1 (List.replicate 100 [1000000]) = 0 := by decide
theorem check_rep2 : checkE 1 (List.replicate 100 [1000000] ++ [[0]]) = 4 := by decide
set_option maxRecDepth 100000 in
set_option maxHeartbeats 8000000 in
theorem names8_any (w : World) : Calls Try.prog 8 #[] w (YesPost w) := by
  have HL := Lib.hid (lives9_any w)
  have H11a : Hid (∀ W, Calls Try.prog 11 #[.int .i64 2, .slice (some ⟨W.heap.size + 1, 0, none⟩) 1 1] (lit1 W 2 #[.int .i64 0, .int .i64 0]) (SmithPost [] [[1]] [[1, 0], [0, 1]] 0 (lit1 W 2 #[.int .i64 0, .int .i64 0]))) := Lib.hid fun W => smith11_any _ 2 _ _ (lit1_tab W (xs := [0, 0]) rfl rfl (by simp) (fits_lit (by decide))) smE_nought
  have H11b : Hid (∀ W, Calls Try.prog 11 #[.int .i64 1, .slice none 0 0] W (SmithPost [] [] [[1]] 0 W)) := Lib.hid fun W => smith11_any W 1 _ _ tab_nil smE_none
  have HB0 := Lib.hid fun W => lit1_below W 2 #[.int .i64 0, .int .i64 0]
  unfold lit1 at H11a HB0
  go_enter Try.func8, Try.ntmps8
  go_upto_region 5 with (first
    | (go_at_call 9; (refine HL.out.mono ?_); rintro e w1 ⟨rfl, hb⟩; have HB1 := Lib.hid hb; clear hb)
    | (go_at_call 11; (with_reducible refine (H11a.out _).mono ?_); rintro e w2 ⟨⟨vd, vu, vv, rfl, hd, hu, hv⟩, hb⟩
       obtain ⟨Ad, cd, rfl, -, -, -⟩ := hd.open_
       have HU1 := Lib.hid hu
       have HV1 := Lib.hid hv
       obtain ⟨Au, cu, rfl, -, -, -⟩ := LAt.open_ hu
       obtain ⟨Av, cv, rfl, -, -, -⟩ := LAt.open_ hv
       have HB2 := Lib.hid (HB1.out.trans (((HB0.out w1).trans (hb.mono (HB0.out w1).size)).mono HB1.out.size))
       clear hd hu hv hb)
    | (go_at_call 11; (with_reducible refine (H11b.out _).mono ?_); rintro e w3 ⟨⟨vd, vu, vv, rfl, hd, hu, hv⟩, hb⟩
       obtain ⟨Ad3, cd3, rfl, -, -, -⟩ := hd.open_
       have HV3 := Lib.hid hv
       obtain ⟨Au3, cu3, rfl, -, -, -⟩ := LAt.open_ hu
       obtain ⟨Av3, cv3, rfl, -, -, -⟩ := LAt.open_ hv
       have HB3 := Lib.hid (HB2.out.trans (hb.mono HB2.out.size))
       have HK3 := Lib.hid hb
       clear hd hu hv hb))
  have H18u : Hid (∀ W, Below w2.heap.size w2 W → Calls Try.prog 18 #[.slice Au 1 cu, .slice (some ⟨W.heap.size + 1, 0, none⟩) 1 1] (lit1 W 1 #[.int .i64 1]) (Yes W)) := Lib.hid fun W hW => lists_lit1 HU1.out hW rfl rfl (by simp) (fits_lit (by decide))
  have H18v : Hid (∀ W, Below w2.heap.size w2 W → Calls Try.prog 18 #[.slice Av 2 cv, .slice (some ⟨W.heap.size + 1 + 1, 0, none⟩) 2 2] (lit22 W 1 0 0 1) (Yes W)) := Lib.hid fun W hW => lists_lit22 HV1.out hW (in64_small (by omega)) (in64_small (by omega)) (in64_small (by omega)) (in64_small (by omega))
  have H18w : Hid (∀ W, Below w3.heap.size w3 W → Calls Try.prog 18 #[.slice Av3 1 cv3, .slice (some ⟨W.heap.size + 1, 0, none⟩) 1 1] (lit1 W 1 #[.int .i64 1]) (Yes W)) := Lib.hid fun W hW => lists_lit1 HV3.out hW rfl rfl (by simp) (fits_lit (by decide))
  unfold lit1 at H18u H18w
  unfold lit22 at H18v
  clear H11a H11b HB0 HU1 HV1 HV3 HL
  go_upto_region 6 with (first
    | (go_at_call 18; (with_reducible refine (H18u.out w3 HK3.out).mono ?_); rintro e w4 ⟨rfl, hb⟩; have HB4 := Lib.hid hb; clear hb)
    | (go_at_call 18; (with_reducible refine (H18v.out w4 (HK3.out.trans (HB4.out.mono HK3.out.size))).mono ?_); rintro e w5 ⟨rfl, hb⟩; have HB5 := Lib.hid (HB4.out.trans (hb.mono HB4.out.size)); clear hb)
    | (go_at_call 18; (with_reducible refine (H18w.out w5 HB5.out).mono ?_); rintro e w6 ⟨rfl, hb⟩; have HB6 := Lib.hid (HB3.out.trans ((HB5.out.trans (hb.mono HB5.out.size)).mono HB3.out.size)); clear hb))
  clear H18u H18v H18w HB1 HB2 HB3 HB4 HB5 HK3
  have H13a : Hid (∀ W, Calls Try.prog 13 #[.int .i64 2, .slice (some ⟨W.heap.size + 1 + 1, 0, none⟩) 2 2] (lit22 W 2 4 6 8) (GroupPost [2, 4] 0 0 (lit22 W 2 4 6 8))) := Lib.hid fun W => group13_any _ 2 _ _ (lit22_tab W (in64_small (by omega)) (in64_small (by omega)) (in64_small (by omega)) (in64_small (by omega))) grE_two
  have H13b : Hid (∀ W, Calls Try.prog 13 #[.int .i64 3, .slice (some ⟨W.heap.size + 1, 0, none⟩) 1 1] (lit1 W 3 #[.int .i64 0, .int .i64 0, .int .i64 5]) (GroupPost [5] 2 0 (lit1 W 3 #[.int .i64 0, .int .i64 0, .int .i64 5]))) := Lib.hid fun W => group13_any _ 3 _ _ (lit1_tab W (xs := [0, 0, 5]) rfl rfl (by simp) (fits_lit (by decide))) grE_five
  have H13c : Hid (∀ W, Calls Try.prog 13 #[.int .i64 2, .slice (some ⟨W.heap.size + 1 + 1, 0, none⟩) 2 2] (lit22 W 1 0 0 (-1)) (GroupPost [] 0 0 (lit22 W 1 0 0 (-1)))) := Lib.hid fun W => group13_any _ 2 _ _ (lit22_tab W (in64_small (by omega)) (in64_small (by omega)) (in64_small (by omega)) (in64_small (by omega))) grE_one
  have H26 : Hid (∀ W, Calls Try.prog 26 #[.agg #[.int .i64 2, .slice (some ⟨W.heap.size + 1 + 1 + 1, 0, none⟩) 3 3]] (lit3w W) (GroupPost [6] 0 0 (lit3w W))) := Lib.hid fun W => abelian26_ok _ _ [[1, 1], [1, 2, -1, -2], [2, 2, 2]] 2 (lit3w_tab W) (by decide) (by decide) (by decide) lit3w_ok grE_abel
  have HBa := Lib.hid fun W => lit22_below W 2 4 6 8
  have HBb := Lib.hid fun W => lit1_below W 3 #[.int .i64 0, .int .i64 0, .int .i64 5]
  have HBc := Lib.hid fun W => lit22_below W 1 0 0 (-1)
  have HBd := Lib.hid lit3w_below
  unfold lit1 at H13b HBb
  unfold lit22 at H13a H13c HBa HBc
  unfold lit3w at H26 HBd
  go_upto_region 10 with (first
    | (go_at_call 13; (with_reducible refine (H13a.out _).mono ?_); rintro e w7 ⟨⟨vt, rfl, ht⟩, hb⟩; have HT7 := Lib.hid ht; obtain ⟨A7, c7, rfl, -, -, -⟩ := ht.open_; have HB7 := Lib.hid ((HBa.out w6).trans (hb.mono (HBa.out w6).size)); clear ht hb)
    | (go_at_call 13; (with_reducible refine (H13b.out _).mono ?_); rintro e w8 ⟨⟨vt, rfl, ht⟩, hb⟩; have HT8 := Lib.hid ht; obtain ⟨A8, c8, rfl, -, -, -⟩ := ht.open_; have HB8 := Lib.hid ((HBb.out w7).trans (hb.mono (HBb.out w7).size)); clear ht hb)
    | (go_at_call 13; (with_reducible refine (H13c.out _).mono ?_); rintro e w9 ⟨⟨vt, rfl, ht⟩, hb⟩; have HT9 := Lib.hid ht; obtain ⟨A9, c9, rfl, -, -, -⟩ := ht.open_; have HB9 := Lib.hid ((HBc.out w8).trans (hb.mono (HBc.out w8).size)); clear ht hb)
    | (go_at_call 26; (with_reducible refine (H26.out _).mono ?_); rintro e w10 ⟨⟨vt, rfl, ht⟩, hb⟩; have HT10 := Lib.hid ht; obtain ⟨A10, c10, rfl, -, -, -⟩ := ht.open_; have HB10 := Lib.hid ((HBd.out w9).trans (hb.mono (HBd.out w9).size)); clear ht hb))
  clear H13a H13b H13c H26 HBa HBb HBc HBd
  have HK9 : Hid (Below w9.heap.size w9 w10) := Lib.hid HB10.out
  have HK8 : Hid (Below w8.heap.size w8 w10) := Lib.hid (HB9.out.trans (HB10.out.mono HB9.out.size))
  have HK7 : Hid (Below w7.heap.size w7 w10) := Lib.hid (HB8.out.trans (HK8.out.mono HB8.out.size))
  have HK6 : Hid (Below w.heap.size w w10) := Lib.hid (HB6.out.trans ((HB7.out.trans (HK7.out.mono HB7.out.size)).mono HB6.out.size))
  have H30a : Hid (∀ W, Below w10.heap.size w10 W → Calls Try.prog 30 #[.slice A7 2 c7, .int .i64 0, .int .i64 0, .int .i64 0, .slice (some ⟨W.heap.size, 0, none⟩) 2 2] (W.alloc (.cells #[.int .i64 2, .int .i64 4] 3)) (Yes W)) := Lib.hid fun W hW => is_lit 0 HT7.out (HK7.out.trans (hW.mono HK7.out.size)) rfl rfl (by simp)
  have H30b : Hid (∀ W, Below w10.heap.size w10 W → Calls Try.prog 30 #[.slice A8 1 c8, .int .i64 2, .int .i64 0, .int .i64 2, .slice (some ⟨W.heap.size, 0, none⟩) 1 1] (W.alloc (.cells #[.int .i64 5] 3)) (Yes W)) := Lib.hid fun W hW => is_lit 2 HT8.out (HK8.out.trans (hW.mono HK8.out.size)) rfl rfl (by simp)
  have H30c : Hid (∀ W, Below w10.heap.size w10 W → Calls Try.prog 30 #[.slice A9 0 c9, .int .i64 0, .int .i64 0, .int .i64 0, .slice none 0 0] W (Yes W)) := Lib.hid fun W hW => is_nil 0 HT9.out (HK9.out.trans (hW.mono HK9.out.size))
  have H30d : Hid (∀ W, Below w10.heap.size w10 W → Calls Try.prog 30 #[.slice A10 1 c10, .int .i64 0, .int .i64 0, .int .i64 0, .slice (some ⟨W.heap.size, 0, none⟩) 1 1] (W.alloc (.cells #[.int .i64 6] 3)) (Yes W)) := Lib.hid fun W hW => is_lit 0 HT10.out hW rfl rfl (by simp)
  clear HB6 HB7 HB8 HB9 HB10 HK7 HK8 HK9
  go_upto_region 11 with (first
    | (go_at_call 30; (with_reducible refine (H30a.out w10 (Below.refl _ _)).mono ?_); rintro e w11 ⟨rfl, hb⟩; have HB11 := Lib.hid hb; clear hb)
    | (go_at_call 30; (with_reducible refine (H30b.out w11 HB11.out).mono ?_); rintro e w12 ⟨rfl, hb⟩; have HB12 := Lib.hid (HB11.out.trans (hb.mono HB11.out.size)); clear hb)
    | (go_at_call 30; (with_reducible refine (H30c.out w12 HB12.out).mono ?_); rintro e w13 ⟨rfl, hb⟩; have HB13 := Lib.hid (HB12.out.trans (hb.mono HB12.out.size)); clear hb)
    | (go_at_call 30; (with_reducible refine (H30d.out w13 HB13.out).mono ?_); rintro e w14 ⟨rfl, hb⟩; have HB14 := Lib.hid (HK6.out.trans ((HB13.out.trans (hb.mono HB13.out.size)).mono HK6.out.size)); clear hb))
  clear H30a H30b H30c H30d HT7 HT8 HT9 HT10 HK6 HB11 HB12 HB13
  have H27a : Hid (∀ W, Calls Try.prog 27 #[.slice (some ⟨W.heap.size, 0, none⟩) 2 2] (W.alloc (.cells #[.int .i64 2, .int .i64 12] 3)) fun e w' => (∃ A c, e = .returned (.tuple #[.slice A 3 c, .int .i64 0]) ∧ PrsAt w' (.slice A 3 c) [(2, 1), (2, 2), (3, 1)]) ∧ Below W.heap.size W w') := Lib.hid fun W => by
    have h := powers27_any (W.alloc (.cells #[.int .i64 2, .int .i64 12] 3)) _ [2, 12] (ints_lit (heap_alloc_new W _) rfl (by simp) (fits_lit (by decide)))
    rw [powers_ex] at h
    have hb : Below W.heap.size W (W.alloc (.cells #[.int .i64 2, .int .i64 12] 3)) := (Below.refl _ _).alloc (Nat.le_refl _) _
    exact h.mono fun e w' ⟨⟨A, c, h1, h2⟩, h3⟩ => ⟨⟨A, c, h1, OwnP.prs h2⟩, hb.trans (h3.mono hb.size)⟩
  have H27b : Hid (∀ W, Calls Try.prog 27 #[.slice (some ⟨W.heap.size, 0, none⟩) 1 1] (W.alloc (.cells #[.int .i64 1] 3)) fun e w' => (∃ A c, e = .returned (.tuple #[.slice A 0 c, .int .i64 2])) ∧ Below W.heap.size W w') := Lib.hid fun W => by
    have h := powers27_any (W.alloc (.cells #[.int .i64 1] 3)) _ [1] (ints_lit (heap_alloc_new W _) rfl (by simp) (fits_lit (by decide)))
    rw [powers_one] at h
    have hb : Below W.heap.size W (W.alloc (.cells #[.int .i64 1] 3)) := (Below.refl _ _).alloc (Nat.le_refl _) _
    exact h.mono fun e w' ⟨⟨A, c, h1, h2⟩, h3⟩ => ⟨⟨A, c, h1⟩, hb.trans (h3.mono hb.size)⟩
  have H29a : Hid (∀ W, Calls Try.prog 29 #[.slice (some ⟨W.heap.size, 0, none⟩) 3 3] (W.alloc (.cells #[.int .i64 2, .int .i64 1, .int .i64 2, .int .i64 2, .int .i64 3, .int .i64 1] 56)) fun e w' => (∃ v, e = .returned (.tuple #[v, .int .i64 0]) ∧ IntsAt w' v [2, 12]) ∧ Below W.heap.size W w') := Lib.hid fun W => by
    have h := join29_any (W.alloc (.cells #[.int .i64 2, .int .i64 1, .int .i64 2, .int .i64 2, .int .i64 3, .int .i64 1] 56)) _ [(2, 1), (2, 2), (3, 1)] (prs_lit (heap_alloc_new W _) rfl (by simp)) (pfits_lit (by decide))
    rw [join_ex] at h
    have hb : Below W.heap.size W (W.alloc (.cells #[.int .i64 2, .int .i64 1, .int .i64 2, .int .i64 2, .int .i64 3, .int .i64 1] 56)) := (Below.refl _ _).alloc (Nat.le_refl _) _
    exact h.mono fun e w' ⟨h1, h3⟩ => ⟨h1, hb.trans (h3.mono hb.size)⟩
  have H29b : Hid (∀ W, Calls Try.prog 29 #[.slice (some ⟨W.heap.size, 0, none⟩) 1 1] (W.alloc (.cells #[.int .i64 4, .int .i64 1] 56)) fun e w' => (∃ v, e = .returned (.tuple #[v, .int .i64 3])) ∧ Below W.heap.size W w') := Lib.hid fun W => by
    have h := join29_any (W.alloc (.cells #[.int .i64 4, .int .i64 1] 56)) _ [(4, 1)] (prs_lit (heap_alloc_new W _) rfl (by simp)) (pfits_lit (by decide))
    rw [join_four] at h
    have hb : Below W.heap.size W (W.alloc (.cells #[.int .i64 4, .int .i64 1] 56)) := (Below.refl _ _).alloc (Nat.le_refl _) _
    exact h.mono fun e w' ⟨⟨v, h1, _⟩, h3⟩ => ⟨⟨v, h1⟩, hb.trans (h3.mono hb.size)⟩
  have H29c : Hid (∀ W, Calls Try.prog 29 #[.slice (some ⟨W.heap.size, 0, none⟩) 1 1] (W.alloc (.cells #[.int .i64 2, .int .i64 30] 56)) fun e w' => (∃ v, e = .returned (.tuple #[v, .int .i64 5])) ∧ Below W.heap.size W w') := Lib.hid fun W => by
    have h := join29_any (W.alloc (.cells #[.int .i64 2, .int .i64 30] 56)) _ [(2, 30)] (prs_lit (heap_alloc_new W _) rfl (by simp)) (pfits_lit (by decide))
    rw [join_great] at h
    have hb : Below W.heap.size W (W.alloc (.cells #[.int .i64 2, .int .i64 30] 56)) := (Below.refl _ _).alloc (Nat.le_refl _) _
    exact h.mono fun e w' ⟨⟨v, h1, _⟩, h3⟩ => ⟨⟨v, h1⟩, hb.trans (h3.mono hb.size)⟩
  go_upto_region 16 with (first
    | (go_at_call 27; (with_reducible refine (H27a.out _).mono ?_); rintro e w15 ⟨⟨A15, c15, rfl, hp⟩, hb⟩; have HP15 := Lib.hid hp; have HB15 := Lib.hid hb; clear hp hb)
    | (go_at_call 29; (with_reducible refine (H29a.out _).mono ?_); rintro e w16 ⟨⟨v16, rfl, ht⟩, hb⟩; have HT16 := Lib.hid ht; obtain ⟨A16, c16, rfl, -, -, -⟩ := ht.open_; have HB16 := Lib.hid hb; clear ht hb)
    | (go_at_call 29; (with_reducible refine (H29b.out _).mono ?_); rintro e w17 ⟨⟨v17, rfl⟩, hb⟩; have HB17 := Lib.hid hb; clear hb)
    | (go_at_call 27; (with_reducible refine (H27b.out _).mono ?_); rintro e w18 ⟨⟨A18, c18, rfl⟩, hb⟩; have HB18 := Lib.hid hb; clear hb)
    | (go_at_call 29; (with_reducible refine (H29c.out _).mono ?_); rintro e w19 ⟨⟨v19, rfl⟩, hb⟩; have HB19 := Lib.hid hb; clear hb))
  clear H27a H27b H29a H29b H29c
  have HK17 : Hid (Below w17.heap.size w17 w19) := Lib.hid (HB18.out.trans (HB19.out.mono HB18.out.size))
  have HK16 : Hid (Below w16.heap.size w16 w19) := Lib.hid (HB17.out.trans (HK17.out.mono HB17.out.size))
  have HK15 : Hid (Below w15.heap.size w15 w19) := Lib.hid (HB16.out.trans (HK16.out.mono HB16.out.size))
  have HK14 : Hid (Below w.heap.size w w19) := Lib.hid (HB14.out.trans ((HB15.out.trans (HK15.out.mono HB15.out.size)).mono HB14.out.size))
  have H31 : Hid (∀ W, Below w19.heap.size w19 W → Calls Try.prog 31 #[.slice A15 3 c15, .slice (some ⟨W.heap.size, 0, none⟩) 3 3] (W.alloc (.cells #[.int .i64 2, .int .i64 1, .int .i64 2, .int .i64 2, .int .i64 3, .int .i64 1] 56)) (Yes W)) := Lib.hid fun W hW => by
    have hb : Below W.heap.size W (W.alloc (.cells #[.int .i64 2, .int .i64 1, .int .i64 2, .int .i64 2, .int .i64 3, .int .i64 1] 56)) := (Below.refl _ _).alloc (Nat.le_refl _) _
    have h := same31_true (W.alloc (.cells #[.int .i64 2, .int .i64 1, .int .i64 2, .int .i64 2, .int .i64 3, .int .i64 1] 56)) _ _ [(2, 1), (2, 2), (3, 1)] (HP15.out.below (HK15.out.trans ((hW.trans (hb.mono hW.size)).mono HK15.out.size))) (prs_lit (heap_alloc_new W _) rfl (by simp))
    exact h.mono fun e w' ⟨h1, q, h2⟩ => ⟨h1, by rw [h2]; exact below_drewN hb q⟩
  have H17 : Hid (∀ W, Below w19.heap.size w19 W → Calls Try.prog 17 #[.slice A16 2 c16, .slice (some ⟨W.heap.size, 0, none⟩) 2 2] (W.alloc (.cells #[.int .i64 2, .int .i64 12] 3)) (Yes W)) := Lib.hid fun W hW => same_lit HT16.out (HK16.out.trans (hW.mono HK16.out.size)) rfl rfl (by simp)
  have HR := Lib.hid row32_any
  clear HB14 HB15 HB16 HB17 HB18 HB19 HK15 HK16 HK17
  go_upto_region 19 with (first
    | (go_at_call 31; (with_reducible refine (H31.out w19 (Below.refl _ _)).mono ?_); rintro e w20 ⟨rfl, hb⟩; have HB20 := Lib.hid hb; clear hb)
    | (go_at_call 32; (refine (HR.out _ _ _ _).mono ?_); rintro e w' ⟨rfl, rfl⟩)
    | (go_at_call 17; (with_reducible refine (H17.out w20 HB20.out).mono ?_); rintro e w21 ⟨rfl, hb⟩; have HB21 := Lib.hid (HK14.out.trans ((HB20.out.trans (hb.mono HB20.out.size)).mono HK14.out.size)); clear hb))
  clear H31 H17 HP15 HT16 HK14 HB20
  go_loopw [34, 35] (fun zl z wr => ∃ (k : Nat) (A : Option Addr) (c : Nat), k ≤ 100 ∧ z = .int .i64 k ∧ zl = .slice A k c ∧ Hid ((∃ bl cs, MatM w21.heap.size wr (.slice A k c) bl cs (List.replicate k [1000000])) ∧ Below w21.heap.size w21 wr)) (fun _ z _ => 100 - (intOf z).toNat)
  case atStart => exact ⟨0, none, 0, by omega, rfl, rfl, Lib.hid ⟨⟨_, _, MatM.nil _ _⟩, Below.refl _ _⟩⟩
  case round =>
    obtain ⟨k, A, c, hk, rfl, rfl, HQ⟩ := hrel
    have hk0 : (0 : Int) ≤ (k : Int) := Int.natCast_nonneg _
    by_cases hkl : k < 100
    · have hkl' : (k : Int) < 100 := by omega
      obtain ⟨A', c', w', hr, HN⟩ := row_push (x := 1000000) HQ.out.1 HQ.out.2 (by simp; omega)
      rw [List.length_replicate, ← List.replicate_succ'] at HN
      rw [List.length_replicate] at hr
      have HR8 := Lib.hid hr
      clear hr
      go_wp2_with (first
        | (go_at_call 32; (refine (HR.out _ _ _ _).mono ?_); rintro e w' ⟨rfl, rfl⟩)
        | ((with_reducible refine wpList_sel 227 ?_); refine wpList_val rfl (r_app (.tmp 223) (.tmp 226) 22 rfl rfl rfl HR8.out) ?_))
      go_roundw
      case rel => exact ⟨k + 1, A', c', by omega, by go_num, rfl, HN⟩
      case measure => simp [intOf]; omega
    · obtain rfl : k = 100 := by omega
      have HBL : Hid (Below w.heap.size w wr) := Lib.hid (HB21.out.trans (HQ.out.2.mono HB21.out.size))
      have HML : Hid (∃ bl cs, MatM w21.heap.size wr (.slice A 100 c) bl cs (List.replicate 100 [1000000])) := Lib.hid HQ.out.1
      have HQ2 : Hid (Below w21.heap.size w21 wr) := Lib.hid HQ.out.2
      have HB21 := HB21
      clear HQ
      have H15a : Hid (∀ W : World, Calls Try.prog 15 #[.int .i64 17, .slice none 0 0] W fun e w' => e = .returned (.int .i64 2) ∧ Below W.heap.size W w') := Lib.hid fun W => (check15_any W 17 _ [] tab_nil).mono fun e w' ⟨h1, q, h2⟩ => ⟨by rw [h1]; rfl, by rw [h2]; exact below_drewN (Below.refl _ _) q⟩
      have H15b : Hid (∀ W : World, Calls Try.prog 15 #[.int .i64 16, .slice none 0 0] W fun e w' => e = .returned (.int .i64 0) ∧ Below W.heap.size W w') := Lib.hid fun W => (check15_any W 16 _ [] tab_nil).mono fun e w' ⟨h1, q, h2⟩ => ⟨by rw [h1]; rfl, by rw [h2]; exact below_drewN (Below.refl _ _) q⟩
      have H15c : Hid (∀ W : World, Calls Try.prog 15 #[.int .i64 2, .slice (some ⟨W.heap.size + 1, 0, none⟩) 1 1] (lit1 W 1 #[.int .i64 1]) fun e w' => e = .returned (.int .i64 3) ∧ Below W.heap.size W w') := Lib.hid fun W => (check15_any _ 2 _ [[1]] (lit1_tab W (xs := [1]) rfl rfl (by simp) (fits_lit (by decide)))).mono fun e w' ⟨h1, q, h2⟩ => ⟨by rw [h1]; rfl, by rw [h2]; exact below_drewN (lit1_below W _ _) q⟩
      have H15d : Hid (∀ W : World, Calls Try.prog 15 #[.int .i64 1, .slice (some ⟨W.heap.size + 1, 0, none⟩) 1 1] (lit1 W 1 #[.int .i64 1000001]) fun e w' => e = .returned (.int .i64 2) ∧ Below W.heap.size W w') := Lib.hid fun W => (check15_any _ 1 _ [[1000001]] (lit1_tab W (xs := [1000001]) rfl rfl (by simp) (fits_lit (by decide)))).mono fun e w' ⟨h1, q, h2⟩ => ⟨by rw [h1]; rfl, by rw [h2]; exact below_drewN (lit1_below W _ _) q⟩
      have H15e : Hid (∀ W : World, Below wr.heap.size wr W → Calls Try.prog 15 #[.int .i64 1, .slice A 100 c] W fun e w' => e = .returned (.int .i64 0) ∧ Below W.heap.size W w') := Lib.hid fun W hW => by
        obtain ⟨bl, cs, hM⟩ := HML.out
        refine (check15_any W 1 _ (List.replicate 100 [1000000]) ((hM.keep hW).tab rep_fits)).mono fun e w' ⟨h1, q, h2⟩ => ⟨by rw [h1, check_rep], by rw [h2]; exact below_drewN (Below.refl _ _) q⟩
      have HPUSH : Hid (∀ W : World, Below wr.heap.size wr W → ∃ A' c' w', (Builtin.append_ #[22, 22] 22 #[.slice A 100 c, .slice (some ⟨W.heap.size + 1, 0, none⟩) 1 1]).run Try.prog ((W.alloc (.cells #[.int .i64 0] 3)).alloc (.cells #[.slice (some ⟨W.heap.size, 0, none⟩) 1 1] 25)) = .ok (.slice A' 101 c') w' ∧ Hid (Tab w' (.slice A' 101 c') (List.replicate 100 [1000000] ++ [[0]]) ∧ Below w.heap.size w w')) := Lib.hid fun W hW => by
        obtain ⟨bl, cs, hM⟩ := HML.out
        obtain ⟨A', c', w', hr, HN⟩ := row_push (x := 0) (w0 := w21) (wr := W) ⟨bl, cs, hM.keep hW⟩ (HQ2.out.trans (hW.mono HQ2.out.size)) (by simp)
        rw [List.length_replicate] at hr HN
        obtain ⟨⟨bl2, cs2, hM2⟩, hB2⟩ := HN.out
        exact ⟨A', c', w', hr, Lib.hid ⟨hM2.tab (fun y hy => by
          rcases List.mem_append.1 hy with hy | hy
          · exact rep_fits y hy
          · rw [List.mem_singleton] at hy
            subst hy
            exact fits_lit (by decide)), HB21.out.trans (hB2.mono HB21.out.size)⟩⟩
      unfold lit1 at H15c H15d
      clear HML HQ2 HB21
      go_upto_region 23 with (first
        | (go_at_call 15; (with_reducible refine (H15a.out _).mono ?_); rintro e w22 ⟨rfl, hb⟩; have HB22 := Lib.hid hb; clear hb)
        | (go_at_call 15; (with_reducible refine (H15b.out _).mono ?_); rintro e w23 ⟨rfl, hb⟩; have HB23 := Lib.hid (HB22.out.trans (hb.mono HB22.out.size)); clear hb)
        | (go_at_call 15; (with_reducible refine (H15c.out _).mono ?_); rintro e w24 ⟨rfl, hb⟩; have HB24 := Lib.hid (HB23.out.trans (hb.mono HB23.out.size)); clear hb)
        | (go_at_call 15; (with_reducible refine (H15d.out _).mono ?_); rintro e w25 ⟨rfl, hb⟩; have HB25 := Lib.hid (HB24.out.trans (hb.mono HB24.out.size)); clear hb)
        | (go_at_call 15; (with_reducible refine (H15e.out w25 HB25.out).mono ?_); rintro e w26 ⟨rfl, hb⟩; obtain ⟨Ap, cp, wp, hrp, HNP⟩ := HPUSH.out w26 (HB25.out.trans (hb.mono HB25.out.size)); have HRP := Lib.hid hrp; have H15f := Lib.hid (check15_any wp 1 _ _ HNP.out.1); clear hb hrp)
        | (go_at_call 32; (refine (HR.out _ _ _ _).mono ?_); rintro e w' ⟨rfl, rfl⟩)
        | ((with_reducible refine wpList_sel 256 ?_); refine wpList_valG (by rfl) (r_app (.tmp 252) (.tmp 255) 22 rfl rfl rfl HRP.out) ?_)
        | (go_at_call 15; (refine H15f.out.mono ?_); rintro e w27 ⟨rfl, q, rfl⟩; rw [check_rep2]))
      have HB27 := Lib.hid (below_drewN HNP.out.2 q)
      have H26r : Hid (∀ W, Calls Try.prog 26 #[.agg #[.int .i64 17, .slice none 0 0]] W (GroupPost [] 0 2 W)) := Lib.hid fun W => abelian26_range W _ [] 17 tab_nil (.inr (by decide))
      have H26w : Hid (∀ W, Calls Try.prog 26 #[.agg #[.int .i64 1, .slice (some ⟨W.heap.size + 1, 0, none⟩) 1 1]] (lit1w W) (GroupPost [] 0 2 (lit1w W))) := Lib.hid fun W => abelian26_bad (lit1w W) _ [[2]] 1 (lit1w_tab W) (by decide) (by decide) (by decide) 0 (by decide) (fun k hk => absurd hk (by omega)) (by decide) (by decide)
      have HBw := Lib.hid lit1w_below
      unfold lit1w at H26w HBw
      clear HNP HB22 HB23 HB24 HB25 HBL H15a H15b H15c H15d H15e H15f HRP HPUSH
      go_wp2_with (first
        | (go_at_call 26; (with_reducible refine (H26r.out _).mono ?_); rintro e w28 ⟨⟨v28, rfl, ht⟩, hb⟩; obtain ⟨A28, c28, rfl, -, -, -⟩ := ht.open_; have HB28 := Lib.hid (HB27.out.trans (hb.mono HB27.out.size)); clear ht hb)
        | (go_at_call 26; (with_reducible refine (H26w.out _).mono ?_); rintro e w29 ⟨⟨v29, rfl, ht⟩, hb⟩; obtain ⟨A29, c29, rfl, -, -, -⟩ := ht.open_; have HB29 := Lib.hid (HB28.out.trans (((HBw.out w28).trans (hb.mono (HBw.out w28).size)).mono HB28.out.size)); clear ht hb))
      go_ret
      exact ⟨rfl, HB29.out⟩
end Go.Proofs
