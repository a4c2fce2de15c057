/- The reference's least: the least entry is brought to the place. -/
import Derived.Test.YthfachbkcmifbaaGreatGrCS10
import Derived.Test.YthfachbkcmifbaaGreatGrCS6
import Derived.Test.YthfachbkcmifbaaGreatGrCS12
import Derived.Deep.CutRange
import Derived.Deep.CutBlock
import Derived.Deep.Light
namespace Go.Proofs
open Go.RowKit Go.Shelf Go.Proofs.Sm
theorem size74_eq (w : World) (x : Int) (hx : -1000000000 ≤ x ∧ x ≤ 1000000000) : Calls Tryz.prog 88 #[.int .i64 x] w fun e w' => e = .returned (.int .i64 (x.natAbs : Int)) ∧ w = w' :=
  (size74_any w x ⟨by omega, by omega⟩ ⟨by omega, by omega⟩).mono fun _ _ ⟨h1, h2⟩ => ⟨h1, h2.symm⟩
/-- what bringing the least entry to the place comes to -/
def LeastPost (b base r n : Nat) (s : S) (z0 : Value) (w : World) (e : Ending) (w' : World) : Prop :=
  (least s.a s.t r n = none ∧ e = .returned (.bool false) ∧ Wk 86 b base w' s z0 ∧ Chb b base w w') ∨
    ∃ x y, least s.a s.t r n = some (x, y) ∧ e = .returned (.bool true) ∧ Wk 86 b base w' ((s.swR s.t x).swC s.t y) z0 ∧ Chb b base w w'
theorem swap_one {b base r L c : Nat} {w : World} {s : S} {z0 : Value} {vs : Nat → Value} {bl cs : Nat → Nat → Nat} (hc : c < 3) (hl : (s.mat c).length = r) (hrl : ∀ p, p < r → ((s.mat c).getD p []).length = L) {t x : Nat} (ht : t < r) (hx : x < r) (hM : WkM 86 b base w s z0 vs bl cs) :
    ∃ g d bt bx ct cx, w.cell? ⟨b, c, none⟩ = some (.slice (some ⟨g, 0, none⟩) r d) ∧ w.cell? ⟨g, t, none⟩ = some (.slice (some ⟨bt, 0, none⟩) L ct) ∧ w.cell? ⟨g, x, none⟩ = some (.slice (some ⟨bx, 0, none⟩) L cx) ∧ w.frozen? ⟨g, t, none⟩ = false ∧ w.frozen? ⟨g, x, none⟩ = false ∧
      Hid ((∃ bl cs, WkM 86 b base ((w.setCell ⟨g, t, none⟩ (.slice (some ⟨bx, 0, none⟩) L cx)).setCell ⟨g, x, none⟩ (.slice (some ⟨bt, 0, none⟩) L ct)).drew (s.setMat c (Sm.swR (s.mat c) t x)) z0 vs bl cs) ∧ ∀ w0, Chb b base w0 w → Chb b base w0 ((w.setCell ⟨g, t, none⟩ (.slice (some ⟨bx, 0, none⟩) L cx)).setCell ⟨g, x, none⟩ (.slice (some ⟨bt, 0, none⟩) L ct)).drew) := by
  obtain ⟨c0, c1, c2, -, -⟩ := hM.cells
  have hcc : w.cell? ⟨b, c, none⟩ = some (vs c) := by
    obtain rfl | rfl | rfl : c = 0 ∨ c = 1 ∨ c = 2 := by omega
    · exact c0
    · exact c1
    · exact c2
  obtain ⟨g, d, hv, hg1, hg2, -⟩ := hM.row_at (k := c) (i := t) hc (by rw [hl]; exact ht)
  obtain ⟨g', d', hv', hg3, hg4, -⟩ := hM.row_at (k := c) (i := x) hc (by rw [hl]; exact hx)
  rw [hv] at hv'
  obtain rfl : g = g' := by injection hv' with e1; injection e1 with e2; injection e2
  rw [hrl t ht] at hg1
  rw [hrl x hx] at hg3
  rw [hv, hl] at hcc
  have hsw := hM.swap (k := c) (i := t) (j := x) (g := g) hc (by rw [hl]; exact ht) (by rw [hl]; exact hx) (by rw [hv]; rfl)
  rw [hrl t ht, hrl x hx] at hsw
  exact ⟨g, d, bl c t, bl c x, cs c t, cs c x, hcc, hg1, hg3, hg2, hg4, Lib.hid ⟨⟨_, _, hsw.drewN 1⟩, fun w0 h => by
    have h2 := h.swap hM (k := c) (i := t) (j := x) (g := g) hc (by rw [hl]; exact ht) (by rw [hl]; exact hx) (by rw [hv]; rfl)
    rw [hrl t ht, hrl x hx] at h2
    exact h2.drewN 1⟩⟩
set_option maxRecDepth 100000 in
set_option maxHeartbeats 4000000 in
theorem least57_any (base b r n : Nat) (w : World) (s : S) (z0 : Value) (hr : r ≤ 100000) (hn : n ≤ 100000) (hS : Wk 86 b base w s z0) (hp : Base r n s) (hrt : s.t < r) (hnt : s.t < n) :
    Calls Tryz.prog 77 #[.pointer (some ⟨b, 0, none⟩), .int .i64 (s.t : Int)] w (LeastPost b base r n s z0 w) := by
  have ht : s.t < r := hrt
  have htn : s.t < n := hnt
  obtain ⟨g, d, bt, ct, k1, -, -, -, -, -, k7, k8⟩ := hS.look hp.sh ht htn
  have hbl : b < w.heap.size := World.block_lt_of_cell? w _ k1
  have HLOOK : Hid (∀ i j, i < r → j < n → ∃ bi ci, w.cell? ⟨g, i, none⟩ = some (.slice (some ⟨bi, 0, none⟩) n ci) ∧ w.cell? ⟨bi, j, none⟩ = some (.int .i64 (ent s.a i j)) ∧ n ≤ ci ∧ ci ≤ 9223372036854775807) := Lib.hid fun i j hi hj => by
    obtain ⟨g2, d2, bi, ci, q1, -, q3, q4, q5, q6, -, -⟩ := hS.look hp.sh hi hj
    rw [k1] at q1
    have e : g = g2 := by injection q1 with e1; injection e1 with e2; injection e2 with e3; injection e3
    subst e
    exact ⟨bi, ci, q3, q4, q5, q6⟩
  have HBD : Hid (∀ i j, -1000000000 ≤ ent s.a i j ∧ ent s.a i j ≤ 1000000000) := Lib.hid hp.bda
  have HS := Lib.hid hS
  have HSH := Lib.hid hp.sh
  clear hS hp hrt hnt
  obtain ⟨t, hst⟩ : ∃ t, t = s.t := ⟨_, rfl⟩
  rw [← hst] at ht htn ⊢
  have HT := Lib.hid hst
  clear hst
  have ht0 : (0 : Int) ≤ (t : Int) := Int.natCast_nonneg _
  have htr : (t : Int) < (r : Int) := by omega
  have htn' : (t : Int) < (n : Int) := by omega
  have hrb : (r : Int) ≤ 100000 := by omega
  have hnb : (n : Int) ≤ 100000 := by omega
  go_enter Tryz.func77, Tryz.ntmps77
  go_upto_block 0 with fail
  go_cut [5, 6, 7, 8] from 11 (fun vx vy v7 v8 wx => ∃ o, vx = .int .i64 (optX o) ∧ vy = .int .i64 (optY o) ∧ Hid (o = least s.a s.t r n) ∧ Hid (∀ x y, o = some (x, y) → x < r ∧ y < n) ∧ ∃ q, wx = w.drewN q)
  case first =>
    rename_i hJ hK
    revert hJ hK
    go_light
    intro hJ hK
    go_wp2_with fail
    go_loopw [5, 6, 7] (fun zx zy z wr => ∃ (i : Nat) (o : Option (Nat × Nat)), t ≤ i ∧ i ≤ r ∧ z = .int .i64 i ∧ zx = .int .i64 (optX o) ∧ zy = .int .i64 (optY o) ∧ Hid (o = upto (leastRow s.a t n) none t i) ∧ Hid (∀ x y, o = some (x, y) → x < r ∧ y < n) ∧ ∃ q, wr = w.drewN q) (fun _ _ z _ => r - (intOf z).toNat)
    case atStart => exact ⟨t, none, by omega, by omega, rfl, rfl, rfl, Lib.hid (by rw [upto_self]), Lib.hid (fun x y h => by cases h), by first | exact ⟨_, rfl⟩ | exact ex_drewN | exact ⟨0, rfl⟩⟩
    case round =>
      obtain ⟨i, o, hi1, hi2, rfl, rfl, rfl, HO, HOB, q, rfl⟩ := hrel
      have hi0 : (0 : Int) ≤ (i : Int) := Int.natCast_nonneg _
      by_cases hlt : i < r
      · have hlt' : (i : Int) < (r : Int) := by omega
        obtain ⟨bi, ci, q1, -, q3, q4⟩ := HLOOK.out i t hlt htn
        have HINNER : Hid (∀ j, j < n → w.cell? ⟨bi, j, none⟩ = some (.int .i64 (ent s.a i j))) := Lib.hid fun j hj => by
          obtain ⟨bi2, ci2, p1, p2, -, -⟩ := HLOOK.out i j hlt hj
          rw [q1] at p1
          have e : bi = bi2 := by injection p1 with e1; injection e1 with e2; injection e2 with e3; injection e3
          subst e
          exact p2
        go_wp2_with fail
        go_loopw [5, 6, 8] (fun zx zy z wr => ∃ (j : Nat) (o' : Option (Nat × Nat)), t ≤ j ∧ j ≤ n ∧ z = .int .i64 j ∧ zx = .int .i64 (optX o') ∧ zy = .int .i64 (optY o') ∧ Hid (o' = upto (better s.a i) o t j) ∧ Hid (∀ x y, o' = some (x, y) → x < r ∧ y < n) ∧ ∃ q, wr = w.drewN q) (fun _ _ z _ => n - (intOf z).toNat)
        case atStart => exact ⟨t, o, by omega, by omega, rfl, rfl, rfl, Lib.hid (by rw [upto_self]), HOB, by first | exact ⟨_, rfl⟩ | exact ex_drewN | exact ⟨0, rfl⟩⟩
        case round =>
          obtain ⟨j, o', hj1, hj2, rfl, rfl, rfl, HO', HOB', q', rfl⟩ := hrel
          have hj0 : (0 : Int) ≤ (j : Int) := Int.natCast_nonneg _
          by_cases hjl : j < n
          · have hjl' : (j : Int) < (n : Int) := by omega
            have q2 := HINNER.out j hjl
            have hq3 : (n : Int) ≤ (ci : Int) := by omega
            have hbd := HBD.out i j
            have HSUCC : Hid (upto (better s.a i) o t (j + 1) = better s.a i o' j) := Lib.hid (by rw [upto_succ _ _ hj1, ← HO'.out])
            have HZ := Lib.hid (@better_zero s.a i j o')
            have HNN := Lib.hid (@better_none s.a i j)
            have HLT := Lib.hid (fun x y => @better_lt s.a i j x y)
            have HGE := Lib.hid (fun x y => @better_ge s.a i j x y)
            generalize hx : ent s.a i j = x at *
            obtain ⟨m, hm⟩ : ∃ m, m = x.natAbs := ⟨_, rfl⟩
            have HSZ : Hid (∀ W, Calls Tryz.prog 88 #[.int .i64 x] W fun e w' => e = .returned (.int .i64 (m : Int)) ∧ W = w') := Lib.hid fun W => by rw [hm]; exact size74_eq W x (by omega)
            have hmb : (m : Int) ≤ 1000000000 := by omega
            have HM := Lib.hid hm
            clear hx hbd
            by_cases hx0 : x = 0
            · have hd3 : (x != 0) = false := by simpa using hx0
              have HX0 := Lib.hid hx0
              clear hx0 hm
              go_wp2_with fail
              go_quiet ((go_at_call 88; first | exact quiet_add_left (HSZ.out _) | exact quiet_left (HSZ.out _)))
              go_wp2_with fail
              go_roundw
              case rel => exact ⟨j + 1, o', by omega, by omega, by go_num, rfl, rfl, Lib.hid (by rw [HSUCC.out]; exact (HZ.out HX0.out).symm), HOB', by first | exact ⟨_, rfl⟩ | exact ex_drewN | exact ⟨0, rfl⟩⟩
              case measure => simp [intOf]; omega
            · have hd3 : (x != 0) = true := by simpa using hx0
              have HX0 := Lib.hid hx0
              clear hx0 hm
              have HIJ : Hid (∀ x y, some (i, j) = some (x, y) → x < r ∧ y < n) := Lib.hid fun x y h => by cases h; exact ⟨hlt, hjl⟩
              rcases o' with _ | ⟨p, pq⟩
              · have hox : optX none = -1 := rfl
                have hoy : optY none = -1 := rfl
                rw [hox, hoy]
                clear hox hoy
                go_wp2_with fail
                go_quiet ((go_at_call 88; first | exact quiet_add_left (HSZ.out _) | exact quiet_left (HSZ.out _)))
                go_wp2_with fail
                go_roundw
                case rel => exact ⟨j + 1, some (i, j), by omega, by omega, by go_num, rfl, rfl, Lib.hid (by rw [HSUCC.out]; exact (HNN.out HX0.out).symm), HIJ, by first | exact ⟨_, rfl⟩ | exact ex_drewN | exact ⟨0, rfl⟩⟩
                case measure => simp [intOf]; omega
              · have hox : optX (some (p, pq)) = (p : Int) := rfl
                have hoy : optY (some (p, pq)) = (pq : Int) := rfl
                rw [hox, hoy]
                clear hox hoy
                obtain ⟨hpr, hpn⟩ := HOB'.out p pq rfl
                obtain ⟨bp, cp, u1, u2, u3, u4⟩ := HLOOK.out p pq hpr hpn
                have hbd2 := HBD.out p pq
                have HLT2 := Lib.hid (HLT.out p pq)
                have HGE2 := Lib.hid (HGE.out p pq)
                generalize hy : ent s.a p pq = y at *
                obtain ⟨m2, hm2⟩ : ∃ m2, m2 = y.natAbs := ⟨_, rfl⟩
                have HSZ2 : Hid (∀ W, Calls Tryz.prog 88 #[.int .i64 y] W fun e w' => e = .returned (.int .i64 (m2 : Int)) ∧ W = w') := Lib.hid fun W => by rw [hm2]; exact size74_eq W y (by omega)
                have hmb2 : (m2 : Int) ≤ 1000000000 := by omega
                have HM2 := Lib.hid hm2
                have hp0 : (0 : Int) ≤ (p : Int) := Int.natCast_nonneg _
                have hpq0 : (0 : Int) ≤ (pq : Int) := Int.natCast_nonneg _
                have hp1 : (p : Int) < (r : Int) := by omega
                have hpq1 : (pq : Int) < (n : Int) := by omega
                have hd5 : decide ((p : Int) < 0) = false := decide_eq_false (by omega)
                have hu3 : (n : Int) ≤ (cp : Int) := by omega
                clear hy hbd2 hm2
                by_cases hmm : m < m2
                · have hd6 : decide (m < m2) = true := decide_eq_true hmm
                  have hd7 : decide ((m : Int) < (m2 : Int)) = true := decide_eq_true (by omega)
                  go_wp2_with fail
                  go_quiet ((go_at_call 88; first | exact quiet_add_left (HSZ.out _) | exact quiet_add_left (HSZ2.out _) | exact quiet_left (HSZ.out _) | exact quiet_left (HSZ2.out _)))
                  go_wp2_with fail
                  go_roundw
                  case rel => exact ⟨j + 1, some (i, j), by omega, by omega, by go_num, rfl, rfl, Lib.hid (by rw [HSUCC.out]; exact (HLT2.out HX0.out (by rw [← HM.out, ← HM2.out]; exact hmm)).symm), HIJ, by first | exact ⟨_, rfl⟩ | exact ex_drewN | exact ⟨0, rfl⟩⟩
                  case measure => simp [intOf]; omega
                · have hd6 : decide (m < m2) = false := decide_eq_false hmm
                  have hd7 : decide ((m : Int) < (m2 : Int)) = false := decide_eq_false (by omega)
                  go_wp2_with fail
                  go_quiet ((go_at_call 88; first | exact quiet_add_left (HSZ.out _) | exact quiet_add_left (HSZ2.out _) | exact quiet_left (HSZ.out _) | exact quiet_left (HSZ2.out _)))
                  go_wp2_with fail
                  go_roundw
                  case rel => exact ⟨j + 1, some (p, pq), by omega, by omega, by go_num, rfl, rfl, Lib.hid (by rw [HSUCC.out]; exact (HGE2.out (by rw [← HM.out, ← HM2.out]; exact hmm)).symm), HOB', by first | exact ⟨_, rfl⟩ | exact ex_drewN | exact ⟨0, rfl⟩⟩
                  case measure => simp [intOf]; omega
          · obtain rfl : j = n := by omega
            go_wp2_with fail
            go_roundw
            case rel => exact ⟨i + 1, o', by omega, by omega, by go_num, rfl, rfl, Lib.hid (by rw [HO'.out, upto_succ _ _ hi1, ← HO.out]; rfl), HOB', by first | exact ⟨_, rfl⟩ | exact ex_drewN | exact ⟨0, rfl⟩⟩
            case measure => simp [intOf]; omega
      · obtain rfl : r = i := by omega
        have HLE : Hid (o = least s.a s.t r n) := Lib.hid (by rw [← HT.out]; exact HO.out)
        go_wp2_with fail
        go_meet
        exact ⟨o, rfl, rfl, HLE, HOB, q, rfl⟩
  case rest =>
    obtain ⟨o, rfl, rfl, HLE, HOB, q, rfl⟩ := hcut
    rcases o with _ | ⟨p, pq⟩
    · have hox : optX none = -1 := rfl
      have hoy : optY none = -1 := rfl
      rw [hox, hoy]
      clear hox hoy
      go_wp2_with fail
      go_ret
      exact .inl ⟨HLE.out.symm, rfl, HS.out.drewN _, (Chb.refl b base w).drewN _⟩
    · have hox : optX (some (p, pq)) = (p : Int) := rfl
      have hoy : optY (some (p, pq)) = (pq : Int) := rfl
      rw [hox, hoy]
      clear hox hoy
      obtain ⟨hpr, hpn⟩ := HOB.out p pq rfl
      have hp0 : (0 : Int) ≤ (p : Int) := Int.natCast_nonneg _
      have hpq0 : (0 : Int) ≤ (pq : Int) := Int.natCast_nonneg _
      have hpr' : (p : Int) < (r : Int) := by omega
      have hpn' : (pq : Int) < (n : Int) := by omega
      have hd5 : decide ((p : Int) < 0) = false := decide_eq_false (by omega)
      have hSq := HS.out.drewN q
      have hchq := (Chb.refl b base w).drewN q
      clear k1 HLOOK
      generalize w.drewN q = wq at *
      obtain ⟨vs, bl0, cs0, hM0⟩ := hSq
      have HC0 : Hid ((∃ bl cs, WkM 86 b base wq s z0 vs bl cs) ∧ Chb b base w wq) := Lib.hid ⟨⟨_, _, hM0⟩, hchq⟩
      have HML0 : Hid ((s.mat 0).length = r ∧ ∀ p, p < r → ((s.mat 0).getD p []).length = n) := Lib.hid ⟨HSH.out.ra.1, fun p hp => rect_row HSH.out.ra hp⟩
      have HML1 : Hid (((swTo s t p 1).mat 1).length = r ∧ ∀ p', p' < r → (((swTo s t p 1).mat 1).getD p' []).length = r) := Lib.hid ⟨HSH.out.ru.1, fun p hp => rect_row HSH.out.ru hp⟩
      obtain ⟨s1, hs1⟩ : ∃ s1, s1 = s.swR t p := ⟨_, rfl⟩
      have HS1 : Hid (Shape r n s1) := Lib.hid (by rw [hs1]; exact HSH.out.swR ht hpr)
      have HS1' := Lib.hid (HS1.out.swC t pq)
      have HS1E := Lib.hid hs1
      clear hM0 hchq hs1 HBD
      go_upto_region 12 with fail
      go_cut [] from 11 (fun wx => Hid ((∃ bl cs, WkM 86 b base wx (swTo s t p 1) z0 vs bl cs) ∧ Chb b base w wx))
      case first =>
        rename_i hJ hK
        revert hJ hK
        go_light
        intro hJ hK
        obtain ⟨⟨bl, cs, hM⟩, hch⟩ := HC0.out
        obtain ⟨g, d, bt, bx, ct, cx, y1, y2, y3, y4, y5, hN⟩ := swap_one (c := 0) (L := n) (by omega) (HML0.out.1) (HML0.out.2) ht hpr hM
        have HN : Hid ((∃ bl cs, WkM 86 b base _ (swTo s t p 1) z0 vs bl cs) ∧ Chb b base w _) := Lib.hid ⟨hN.out.1, hN.out.2 _ hch⟩
        clear hN hM hch HC0
        refine reg12_any (n := n) (by kernel_rfl) y1 y2 y3 y4 y5 ht hpr ?_
        intros
        go_wp2_with fail
        go_meet
        exact HN
      case rest =>
        go_upto_region 13 with fail
        go_cut [] from 11 (fun wx => Hid ((∃ bl cs, WkM 86 b base wx (s1) z0 vs bl cs) ∧ Chb b base w wx))
        case first =>
          rename_i hJ hK
          revert hJ hK
          go_light
          intro hJ hK
          obtain ⟨⟨bl, cs, hM⟩, hch⟩ := hcut.out
          obtain ⟨g, d, bt, bx, ct, cx, y1, y2, y3, y4, y5, hN⟩ := swap_one (c := 1) (L := r) (by omega) (HML1.out.1) (HML1.out.2) ht hpr hM
          have HN : Hid ((∃ bl cs, WkM 86 b base _ (s1) z0 vs bl cs) ∧ Chb b base w _) := Lib.hid ⟨by rw [HS1E.out]; exact hN.out.1, hN.out.2 _ hch⟩
          clear hN hM hch hcut
          refine reg13_any (by kernel_rfl) y1 y2 y3 y4 y5 ht hpr ?_
          intros
          go_wp2_with fail
          go_meet
          exact HN
        case rest =>
          obtain ⟨⟨bl, cs, hM2⟩, hCh2⟩ := hcut.out
          have HSTART : Hid (WkM 86 b base wc (twoTo s1 (s1.swC t pq) r 0) z0 vs bl cs ∧ Chb b base w wc) := Lib.hid ⟨by rw [twoTo_zero]; exact hM2, hCh2⟩
          clear hM2 hCh2 hcut
          go_wp2_with fail
          go_loopw [9] (fun z wr => ∃ i : Nat, i ≤ r ∧ z = .int .i64 i ∧ Hid (WkM 86 b base wr (twoTo s1 (s1.swC t pq) r (i)) z0 vs bl cs ∧ Chb b base w wr)) (fun z _ => r - (intOf z).toNat)
          case atStart => exact ⟨0, by omega, rfl, HSTART⟩
          case round =>
            obtain ⟨i, hi, rfl, HQ⟩ := hrel
            have hi0 : (0 : Int) ≤ (i : Int) := Int.natCast_nonneg _
            obtain ⟨c0, c1, c2, c3, c4⟩ := HQ.out.1.cells
            obtain ⟨A, d, hv, -, -⟩ := HQ.out.1.form (k := 0) (by omega)
            rw [show ((twoTo s1 (s1.swC t pq) r (i)).mat 0).length = r from (mixA_rect HS1.out.ra HS1'.out.ra _).1] at hv
            rw [hv] at c0
            by_cases hil : i < r
            · have hil' : (i : Int) < (r : Int) := by omega
              have hof : ofTwo r (i) = (0, i) := by unfold ofTwo; rw [if_pos hil]
              have hpr : i < r + n := by omega
              have hl1 : ((twoTo s1 (s1.swC t pq) r (i)).mat 0).length = r := (mixA_rect HS1.out.ra HS1'.out.ra _).1
              have hl2 : (((twoTo s1 (s1.swC t pq) r (i)).mat 0).getD i []).length = n := by have h := twoTo_row HS1.out HS1'.out hpr; rw [hof] at h; exact h
              have hrow : ((twoTo s1 (s1.swC t pq) r (i)).mat 0).getD i [] = (s1.mat 0).getD i [] := by have h := twoTo_mat (q := i) HS1.out HS1'.out; rw [hof] at h; exact h
              have hent : ∀ y, ent ((twoTo s1 (s1.swC t pq) r (i)).mat 0) i y = ent (s1.mat 0) i y := fun y => by have h := twoTo_ent (q := i) HS1.out HS1'.out y; rw [hof] at h; exact h
              obtain ⟨g, d2, hv2, hg1, -, -⟩ := HQ.out.1.row_at (k := 0) (i := i) (by omega) (by rw [hl1]; exact hil)
              rw [hl1, hv] at hv2
              obtain rfl : d = d2 := by injection hv2
              obtain rfl : A = some ⟨g, 0, none⟩ := by injection hv2
              rw [hl2] at hg1
              obtain ⟨q1, q2⟩ := HQ.out.1.ent_at (k := 0) (i := i) (j := t) (by omega) (by rw [hl1]; exact hil) (by rw [hl2]; exact htn)
              obtain ⟨q3, q4⟩ := HQ.out.1.ent_at (k := 0) (i := i) (j := pq) (by omega) (by rw [hl1]; exact hil) (by rw [hl2]; exact hpn)
              rw [hent] at q1 q3
              have hset1 := HQ.out.1.set (k := 0) (i := i) (j := t) (by omega) (by rw [hl1]; exact hil) (by rw [hl2]; exact htn) (ent (s1.mat 0) i pq)
              have hm1 : ((twoTo s1 (s1.swC t pq) r (i)).setMat 0 (put ((twoTo s1 (s1.swC t pq) r (i)).mat 0) i t (ent (s1.mat 0) i pq))).mat 0 = put ((twoTo s1 (s1.swC t pq) r (i)).mat 0) i t (ent (s1.mat 0) i pq) := mat_set_self _ _ _
              have hset := hset1.set (k := 0) (i := i) (j := pq) (by omega) (by rw [hm1, length_put, hl1]; exact hil) (by rw [hm1, rowlen_put, hl2]; exact hpn) (ent (s1.mat 0) i t)
              rw [hm1, setMat_setMat, put_put, hrow] at hset
              have htw := twoTo_set (q := i) HS1.out HS1'.out (z := (((s1.mat 0).getD i []).set t (ent (s1.mat 0) i pq)).set pq (ent (s1.mat 0) i t)) (by rw [hof, swC_mat s1 t pq (by left; rfl), swC_row])
              rw [hof] at htw
              have hset2 : WkM 86 b base ((wr.setCell ⟨bl 0 i, t, none⟩ (.int .i64 (ent (s1.mat 0) i pq))).setCell ⟨bl 0 i, pq, none⟩ (.int .i64 (ent (s1.mat 0) i t))) (twoTo s1 (s1.swC t pq) r (i + 1)) z0 vs bl cs := by rw [show i + 1 = i + 1 by omega, ← htw]; exact hset
              obtain ⟨D, hD⟩ := HQ.out.1.row_ty (k := 0) (i := i) (by omega) (by rw [hl1]; exact hil)
              obtain ⟨hb1, -, hcs⟩ := HQ.out.1.row 0 i (by omega) (by rw [hl1]; exact hil)
              rw [hl2] at hcs
              obtain ⟨hcs1, hcs2⟩ := hcs
              have hbel := (HQ.out.2.setRow HQ.out.1 (k := 0) (i := i) (by omega) (by rw [hl1]; exact hil) t (.int .i64 (ent (s1.mat 0) i pq))).setRow hset1 (k := 0) (i := i) (by omega) (by rw [hm1, length_put, hl1]; exact hil) pq (.int .i64 (ent (s1.mat 0) i t))
              have HNX := Lib.hid (And.intro hset2 hbel)
              clear hset hset1 hset2 hm1 htw hbel hrow hl1 hl2 hent hof hD hb1 hv hv2 c1 c2 c3
              generalize ent (s1.mat 0) i t = z at *
              generalize ent (s1.mat 0) i pq = y at *
              generalize bl 0 i = bi at *
              generalize cs 0 i = ci at *
              have HNX2 : Hid (WkM 86 b base ((wr.setCell ⟨bi, t, none⟩ (.int .i64 y)).setCell ⟨bi, pq, none⟩ (.int .i64 z)).drew (twoTo s1 (s1.swC t pq) r (i + 1)) z0 vs bl cs ∧ Chb b base w ((wr.setCell ⟨bi, t, none⟩ (.int .i64 y)).setCell ⟨bi, pq, none⟩ (.int .i64 z)).drew) := Lib.hid ⟨HNX.out.1.drewN 1, HNX.out.2.drewN 1⟩
              clear HNX
              go_upto_region 17 with fail
              rename_i hK
              revert hK
              go_light
              intro hK
              refine reg17_any (by kernel_rfl) c0 hg1 q1 q3 q2 q4 hil htn hpn ?_
              intros
              go_wp2_with fail
              go_roundw
              case rel => exact ⟨i + 1, by omega, by go_num, HNX2⟩
              case measure => simp [intOf]; omega
            · obtain rfl : r = i := by omega
              have HM1 := Lib.hid HQ.out
              clear hv c1 c2 c3
              go_wp2_with fail
              go_loopw [10] (fun z wr => ∃ i : Nat, i ≤ n ∧ z = .int .i64 i ∧ Hid (WkM 86 b base wr (twoTo s1 (s1.swC t pq) r (r + i)) z0 vs bl cs ∧ Chb b base w wr)) (fun z _ => n - (intOf z).toNat)
              case atStart => exact ⟨0, by omega, rfl, HM1⟩
              case round =>
                obtain ⟨i, hi, rfl, HQ⟩ := hrel
                have hi0 : (0 : Int) ≤ (i : Int) := Int.natCast_nonneg _
                obtain ⟨c0, c1, c2, c3, c4⟩ := HQ.out.1.cells
                obtain ⟨A, d, hv, -, -⟩ := HQ.out.1.form (k := 2) (by omega)
                rw [show ((twoTo s1 (s1.swC t pq) r (r + i)).mat 2).length = n from (mixA_rect HS1.out.rv HS1'.out.rv _).1] at hv
                rw [hv] at c2
                by_cases hil : i < n
                · have hil' : (i : Int) < (n : Int) := by omega
                  have hof : ofTwo r (r + i) = (2, i) := by unfold ofTwo; rw [if_neg (by omega), show r + i - r = i by omega]
                  have hpr : r + i < r + n := by omega
                  have hl1 : ((twoTo s1 (s1.swC t pq) r (r + i)).mat 2).length = n := (mixA_rect HS1.out.rv HS1'.out.rv _).1
                  have hl2 : (((twoTo s1 (s1.swC t pq) r (r + i)).mat 2).getD i []).length = n := by have h := twoTo_row HS1.out HS1'.out hpr; rw [hof] at h; exact h
                  have hrow : ((twoTo s1 (s1.swC t pq) r (r + i)).mat 2).getD i [] = (s1.mat 2).getD i [] := by have h := twoTo_mat (q := r + i) HS1.out HS1'.out; rw [hof] at h; exact h
                  have hent : ∀ y, ent ((twoTo s1 (s1.swC t pq) r (r + i)).mat 2) i y = ent (s1.mat 2) i y := fun y => by have h := twoTo_ent (q := r + i) HS1.out HS1'.out y; rw [hof] at h; exact h
                  obtain ⟨g, d2, hv2, hg1, -, -⟩ := HQ.out.1.row_at (k := 2) (i := i) (by omega) (by rw [hl1]; exact hil)
                  rw [hl1, hv] at hv2
                  obtain rfl : d = d2 := by injection hv2
                  obtain rfl : A = some ⟨g, 0, none⟩ := by injection hv2
                  rw [hl2] at hg1
                  obtain ⟨q1, q2⟩ := HQ.out.1.ent_at (k := 2) (i := i) (j := t) (by omega) (by rw [hl1]; exact hil) (by rw [hl2]; exact htn)
                  obtain ⟨q3, q4⟩ := HQ.out.1.ent_at (k := 2) (i := i) (j := pq) (by omega) (by rw [hl1]; exact hil) (by rw [hl2]; exact hpn)
                  rw [hent] at q1 q3
                  have hset1 := HQ.out.1.set (k := 2) (i := i) (j := t) (by omega) (by rw [hl1]; exact hil) (by rw [hl2]; exact htn) (ent (s1.mat 2) i pq)
                  have hm1 : ((twoTo s1 (s1.swC t pq) r (r + i)).setMat 2 (put ((twoTo s1 (s1.swC t pq) r (r + i)).mat 2) i t (ent (s1.mat 2) i pq))).mat 2 = put ((twoTo s1 (s1.swC t pq) r (r + i)).mat 2) i t (ent (s1.mat 2) i pq) := mat_set_self _ _ _
                  have hset := hset1.set (k := 2) (i := i) (j := pq) (by omega) (by rw [hm1, length_put, hl1]; exact hil) (by rw [hm1, rowlen_put, hl2]; exact hpn) (ent (s1.mat 2) i t)
                  rw [hm1, setMat_setMat, put_put, hrow] at hset
                  have htw := twoTo_set (q := r + i) HS1.out HS1'.out (z := (((s1.mat 2).getD i []).set t (ent (s1.mat 2) i pq)).set pq (ent (s1.mat 2) i t)) (by rw [hof, swC_mat s1 t pq (by right; rfl), swC_row])
                  rw [hof] at htw
                  have hset2 : WkM 86 b base ((wr.setCell ⟨bl 2 i, t, none⟩ (.int .i64 (ent (s1.mat 2) i pq))).setCell ⟨bl 2 i, pq, none⟩ (.int .i64 (ent (s1.mat 2) i t))) (twoTo s1 (s1.swC t pq) r (r + (i + 1))) z0 vs bl cs := by rw [show r + (i + 1) = r + i + 1 by omega, ← htw]; exact hset
                  obtain ⟨D, hD⟩ := HQ.out.1.row_ty (k := 2) (i := i) (by omega) (by rw [hl1]; exact hil)
                  obtain ⟨hb1, -, hcs⟩ := HQ.out.1.row 2 i (by omega) (by rw [hl1]; exact hil)
                  rw [hl2] at hcs
                  obtain ⟨hcs1, hcs2⟩ := hcs
                  have hbel := (HQ.out.2.setRow HQ.out.1 (k := 2) (i := i) (by omega) (by rw [hl1]; exact hil) t (.int .i64 (ent (s1.mat 2) i pq))).setRow hset1 (k := 2) (i := i) (by omega) (by rw [hm1, length_put, hl1]; exact hil) pq (.int .i64 (ent (s1.mat 2) i t))
                  have HNX := Lib.hid (And.intro hset2 hbel)
                  clear hset hset1 hset2 hm1 htw hbel hrow hl1 hl2 hent hof hD hb1 hv hv2 c1 c0 c3
                  generalize ent (s1.mat 2) i t = z at *
                  generalize ent (s1.mat 2) i pq = y at *
                  generalize bl 2 i = bi at *
                  generalize cs 2 i = ci at *
                  have HNX2 : Hid (WkM 86 b base ((wr.setCell ⟨bi, t, none⟩ (.int .i64 y)).setCell ⟨bi, pq, none⟩ (.int .i64 z)).drew (twoTo s1 (s1.swC t pq) r (r + (i + 1))) z0 vs bl cs ∧ Chb b base w ((wr.setCell ⟨bi, t, none⟩ (.int .i64 y)).setCell ⟨bi, pq, none⟩ (.int .i64 z)).drew) := Lib.hid ⟨HNX.out.1.drewN 1, HNX.out.2.drewN 1⟩
                  clear HNX
                  go_upto_region 21 with fail
                  rename_i hK
                  revert hK
                  go_light
                  intro hK
                  refine reg21_any (by kernel_rfl) c2 hg1 q1 q3 q2 q4 hil htn hpn ?_
                  intros
                  go_wp2_with fail
                  go_roundw
                  case rel => exact ⟨i + 1, by omega, by go_num, HNX2⟩
                  case measure => simp [intOf]; omega
                · obtain rfl : n = i := by omega
                  have HM1 := Lib.hid HQ.out
                  clear hv c1 c0 c3
                  go_wp2_with fail
                  go_ret
                  refine .inr ⟨_, pq, HLE.out.symm, rfl, ⟨vs, bl, cs, ?_⟩, HM1.out.2⟩
                  rw [← HT.out, ← HS1E.out]
                  have h := HM1.out.1
                  rw [twoTo_full HS1.out HS1'.out rfl rfl] at h
                  exact h
end Go.Proofs
