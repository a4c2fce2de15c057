/- The reference's Join; The examples of Powers and Join; The walk of SmithGroups; Arguments opened: lists of numbers, tables, presentations; Arguments opened: presentations, lists of pairs. -/
import Derived.Test.YthfachbkcmifbaaGreatGrCS19
import Derived.Test.YthfachbkcmifbaaGreatGrCS20
import Derived.Deep.Cut
import Derived.Deep.CutRange
import Derived.Deep.CutBlock
import Derived.Test.YthfachbkcmifbaaGreatGrCS8
import Derived.Test.YthfachbkcmifbaaGreatGrCS17
import Derived.Test.YthfachbkcmifbaaGreatGrCS18
import Derived.Laws.StructEq
import Derived.Test.YthfachbkcmifbaaGreatGrCS16
import Derived.Test.YthfachbkcmifbaaGreatGrCS1
import Derived.ProofKit
import Derived.Deep.Slices
import Derived.Deep.Strs
import Derived.OpenShut
namespace Go.Proofs
open Go.RowKit Go.Shelf Go.Proofs.Sm
theorem ownI_cell {w : World} {base g c : Nat} {o : List Int} (h : OwnI base w (.slice (some ⟨g, 0, none⟩) o.length c) o) {a : Nat} (ha : a < o.length) : w.cell? ⟨g, a, none⟩ = some (.int .i64 (o.getD a 0)) := by
  rw [World.ownsRow.cellAt h a (by omega)]
  simp [ints, List.getD_eq_getElem?_getD, ha]
theorem ownI_put {w : World} {base g c : Nat} {o : List Int} (h : OwnI base w (.slice (some ⟨g, 0, none⟩) o.length c) o) (a : Nat) (y : Int) : OwnI base (w.setCell ⟨g, a, none⟩ (.int .i64 y)) (.slice (some ⟨g, 0, none⟩) (o.set a y).length c) (o.set a y) := by
  have h1 := (World.ownsRow.stored h a (.int .i64 y)).1
  have h2 : ints (o.set a y) = (ints o).set a (.int .i64 y) := by simp [ints, List.map_set]
  unfold OwnI
  rw [h2, List.length_set]
  exact h1
theorem mul_pow_step (z : Int) (p m : Nat) : z * ((p ^ m : Nat) : Int) * (p : Int) = z * ((p ^ (m + 1) : Nat) : Int) := by
  rw [Nat.pow_succ, Int.natCast_mul, Int.mul_assoc]
set_option maxRecDepth 100000 in
set_option maxHeartbeats 4000000 in
theorem join10_any (w : World) (v : Value) (ps : List Pr) (h : PrsAt w v ps) (hf : PFits ps) : Calls Tryz.prog 10 #[v] w (JoinPost (joinE ps) w) := by
  obtain ⟨R, hR⟩ : ∃ R, R = joinE ps := ⟨_, rfl⟩
  rw [← hR]
  have HR := Lib.hid hR
  have HP := Lib.hid h
  have HF := Lib.hid hf
  obtain ⟨A0, c0, rfl, hc1, hc2, hpc0⟩ := h.at_
  have HPC0 := Lib.hid hpc0
  clear hR hf h hpc0
  obtain ⟨N, hN⟩ : ∃ N, N = ps.length := ⟨_, rfl⟩
  rw [← hN] at hc1 HP HPC0 ⊢
  have HN := Lib.hid hN
  clear hN
  by_cases hlong : 1000 < N
  · have HE : Hid (R = ([], 4)) := Lib.hid (by rw [HR.out]; unfold joinE; rw [if_pos (by rw [← HN.out]; exact hlong)])
    have hd : (1000 : Int) < (N : Int) := by omega
    clear HR HP HF HPC0
    go_enter Tryz.func10, Tryz.ntmps10
    go_wp2_with fail
    go_ret2
    rw [HE.out]
    exact ⟨⟨_, rfl, intsAt_nil⟩, Below.refl _ _⟩
  · have hd : ¬ (1000 : Int) < (N : Int) := by omega
    have hNb : (N : Int) ≤ 1000 := by omega
    have HE3 : Hid (∀ k, k < N → badJ (ps.getD k (0, 0)) = true → R = ([], 3)) := Lib.hid fun k hk hb => by rw [HR.out]; unfold joinE; rw [if_neg (by rw [← HN.out]; exact hlong), if_pos (any_hit (by rw [← HN.out]; exact hk) hb)]
    have HCL : Hid (∀ W, Below w.heap.size w W → Calls Tryz.prog 34 #[.slice A0 N c0] W fun e w' => ∃ A c, e = .returned (.slice A N c) ∧ OwnP W.heap.size w' (.slice A N c) ps ∧ Below W.heap.size W w') := Lib.hid fun W hW => (own28_any W _ ps (HP.out.below hW) (by rw [← HN.out]; omega)).mono fun e w' ⟨A, c, h1, h2, h3⟩ => ⟨A, c, by rw [h1, HN.out], by rw [HN.out]; exact h2, h3⟩
    go_enter Tryz.func10, Tryz.ntmps10
    go_wp2_with fail
    go_loopw [4] (fun z wr => ∃ k : Nat, k ≤ N ∧ z = .int .i64 k ∧ Hid ((∀ j, j < k → badJ (ps.getD j (0, 0)) = false) ∧ Below w.heap.size w wr)) (fun z _ => N - (intOf z).toNat)
    case atStart => exact ⟨0, by omega, rfl, Lib.hid ⟨fun j hj => absurd hj (by omega), Below.refl _ _⟩⟩
    case round =>
      obtain ⟨k, hk, rfl, HI⟩ := hrel
      have hk0 : (0 : Int) ≤ (k : Int) := Int.natCast_nonneg _
      by_cases hkl : k < N
      · have hkl' : (k : Int) < (N : Int) := by omega
        obtain ⟨bl, ol, rfl, hcc⟩ := HPC0.out (by omega)
        obtain ⟨y1, y2⟩ := reads_pair (hcc k hkl) HI.out.2
        have HB := Lib.hid (HE3.out k hkl)
        have HSU := Lib.hid fun hb => all_succ (p := fun j => badJ (ps.getD j (0, 0)) = false) HI.out.1 hb
        clear hcc
        generalize ps.getD k (0, 0) = x at *
        have HIS := Lib.hid fun W => is33_any W x.1
        cases hie : isE x.1 with
        | false =>
          rw [hie] at HIS
          have HE := Lib.hid (HB.out (by unfold badJ; rw [hie]; rfl))
          clear hie
          go_wp2_with (go_at_call 33; (refine (HIS.out _).mono ?_); rintro e w1 ⟨rfl, q, rfl⟩)
          go_ret2
          rw [HE.out]
          exact ⟨⟨_, rfl, intsAt_nil⟩, below_drewN HI.out.2 _⟩
        | true =>
          rw [hie] at HIS
          by_cases h2 : x.2 < 1
          · have HE := Lib.hid (HB.out (by unfold badJ; rw [decide_eq_true h2, Bool.or_true]))
            have hd2 : decide (x.2 < 1) = true := decide_eq_true h2
            clear hie h2
            go_wp2_with (go_at_call 33; (refine (HIS.out _).mono ?_); rintro e w1 ⟨rfl, q, rfl⟩)
            go_ret2
            rw [HE.out]
            exact ⟨⟨_, rfl, intsAt_nil⟩, below_drewN HI.out.2 _⟩
          · have HNX := Lib.hid (HSU.out (by unfold badJ; rw [hie, decide_eq_false h2]; rfl))
            have hd2 : decide (x.2 < 1) = false := decide_eq_false h2
            clear hie h2
            go_wp2_with (go_at_call 33; (refine (HIS.out _).mono ?_); rintro e w1 ⟨rfl, q, rfl⟩)
            go_roundw
            case rel => exact ⟨k + 1, by omega, by go_num, Lib.hid ⟨HNX.out, below_drewN HI.out.2 _⟩⟩
            case measure => simp [intOf]; omega
      · obtain rfl : k = N := by omega
        have hany : ps.any badJ = false := any_none fun j hj => HI.out.1 j (by rw [HN.out]; exact hj)
        have HE : Hid (R = joinOf (sortD ps) k) := Lib.hid (by rw [HR.out]; unfold joinE; rw [if_neg (by rw [← HN.out]; exact hlong), if_neg (by rw [hany]; decide), HN.out])
        have HGOOD : Hid (∀ j, j < k → ∃ p n : Nat, ((sortD ps).getD j (0, 0)).1 = (p : Int) ∧ ((sortD ps).getD j (0, 0)).2 = (n : Int) ∧ 1 ≤ p ∧ p ≤ 1000000 ∧ 1 ≤ n ∧ n ≤ 9223372036854775807) := Lib.hid fun j hj => by
          have hmem : (sortD ps).getD j (0, 0) ∈ ps := (sortP_perm ps).mem_iff.1 (List.mem_reverse.1 (getD_memP (ps := sortD ps) (by unfold sortD; rw [List.length_reverse, sortP_length, ← HN.out]; exact hj)))
          have hb := List.any_eq_false.1 hany _ hmem
          have hf := HF.out _ hmem
          generalize (sortD ps).getD j (0, 0) = x at *
          unfold badJ at hb
          simp at hb
          obtain ⟨hb1, hb2⟩ := hb
          rw [isE_iff] at hb1
          have hf2 := hf.2.2
          exact ⟨x.1.toNat, x.2.toNat, by omega, by omega, by omega, by omega, by omega, by omega⟩
        have HB0 := Lib.hid HI.out.2
        have HREV : Hid (∀ i j, i + j + 1 = k → (sortD ps).getD j (0, 0) = (sortP ps).getD i (0, 0)) := Lib.hid fun i j hij => sortD_get ps (by rw [← HN.out]; exact hij)
        clear hany HE3 HPC0 HI HR HP HF
        go_wp2_with (first
          | (go_at_call 34; (refine (HCL.out _ HB0.out).mono ?_); rintro e w2 ⟨A, c, rfl, ho, hb⟩; have HB2 := Lib.hid (HB0.out.trans (hb.mono HB0.out.size)); have HS := Lib.hid (sort25_any wr.heap.size w2 _ ps ho (by rw [← HN.out]; omega)); clear ho hb)
          | (go_at_call 25; (refine HS.out.mono ?_); rintro e w4 ⟨rfl, ho, hb⟩; have HB4 := Lib.hid (HB2.out.trans (hb.mono HB0.out.size)); have hpr := OwnP.prs ho; clear ho hb))
        have HLEN : Hid ((sortP ps).length = k) := Lib.hid (by rw [sortP_length, ← HN.out])
        have HE2 := Lib.hid HE.out
        clear HS HCL HB0 HB2 HE HN
        generalize sortD ps = L at *
        generalize sortP ps = S at *
        obtain ⟨A2, c2, e2, f1, f2, hpc⟩ := hpr.at_
        rw [HLEN.out] at e2 f1 hpc
        injection e2 with e2 e3 e4
        subst e2 e4
        clear e3
        have HPC := Lib.hid hpc
        clear hpr hpc
        rename_i hwr
        clear hkl hk hk0
        generalize k = N at *
        go_loopw [6, 7, 8] (fun zo za zi wr => ∃ (i k : Nat) (st : List Int × Nat) (Ao : Option Addr) (co : Nat), i + k = N ∧ zi = .int .i64 ((i : Int) - 1) ∧ za = .int .i64 (st.2 : Int) ∧ zo = .slice Ao st.1.length co ∧ Hid (JoSt L w4 wr k st Ao co)) (fun _ _ zi _ => ((intOf zi) + 1).toNat)
        case atStart => exact ⟨N, 0, ([], 0), none, 0, by omega, by go_num, rfl, rfl, Lib.hid ⟨rfl, World.ownsRow_nil _ _ _ _, Below.refl _ _⟩⟩
        case round =>
          rename_i wr0
          obtain ⟨i, k, ⟨o, a⟩, Ao, co, hik, rfl, rfl, rfl, HI⟩ := hrel
          rcases i with _ | i
          · -- all are done: the list is turned round
            obtain rfl : k = N := by omega
            have h00 : ((0 : Nat) : Int) - 1 = -1 := rfl
            rw [h00]
            have hJ := joinTo_ok HI.out.jto
            have hlen := hJ.len
            simp only at hlen
            have HE5 : Hid (R = (o.reverse, 0)) := Lib.hid (by rw [HE2.out, joinOf_some HI.out.jto])
            have HBD := Lib.hid hJ.bd
            have HOW := Lib.hid HI.out.own
            have HBW := Lib.hid HI.out.below
            simp only at HOW
            clear hJ HI
            simp only
            obtain ⟨M, hM⟩ : ∃ M, M = o.length := ⟨_, rfl⟩
            rw [← hM] at hlen HOW ⊢
            have HM := Lib.hid hM
            clear hM
            have hMb : (M : Int) ≤ 1000 := by omega
            have hM0 : (0 : Int) ≤ (M : Int) := Int.natCast_nonneg _
            go_wp2_with fail
            go_loopw [10, 11] (fun zi zj wr => ∃ (m : Nat) (X : List Int), m ≤ M ∧ zi = .int .i64 m ∧ zj = .int .i64 ((M : Int) - 1 - (m : Int)) ∧ Hid (RevI o X m ∧ OwnI w4.heap.size wr (.slice Ao M co) X ∧ Below w4.heap.size w4 wr)) (fun zi _ _ => M - (intOf zi).toNat)
            case atStart => exact ⟨0, o, by omega, rfl, by go_num, Lib.hid ⟨RevI.zero o, by rw [HM.out] at HOW ⊢; exact HOW.out, HBW.out⟩⟩
            case round =>
              obtain ⟨m, X, hm, rfl, rfl, HX⟩ := hrel
              have hm0 : (0 : Int) ≤ (m : Int) := Int.natCast_nonneg _
              by_cases hmm : m + m + 1 < M
              · have hlt : (m : Int) < (M : Int) - 1 - (m : Int) := by omega
                obtain ⟨j, hj⟩ : ∃ j : Nat, j = M - 1 - m := ⟨_, rfl⟩
                have hjm : (M : Int) - 1 - (m : Int) = (j : Int) := by omega
                have hXl : X.length = M := HX.out.1.1.trans HM.out.symm
                have hst := HX.out.1.step (by rw [← HM.out]; exact hmm)
                rw [← HM.out, ← hj] at hst
                have how := HX.out.2.1
                have hAo := how
                rw [← hXl] at hAo
                obtain ⟨g, rfl, -, hg, hMc, hcb⟩ := owns_xs hAo (by omega)
                have hcm := ownI_cell hAo (a := m) (by omega)
                have hcj := ownI_cell hAo (a := j) (by omega)
                have hfm : wr.frozen? ⟨g, m, none⟩ = false := World.ownsRow.frozenAt hAo m
                have hfj : wr.frozen? ⟨g, j, none⟩ = false := World.ownsRow.frozenAt hAo j
                have HP2 : Hid (OwnI w4.heap.size ((wr.setCell ⟨g, m, none⟩ (.int .i64 (X.getD j 0))).setCell ⟨g, j, none⟩ (.int .i64 (X.getD m 0))) (.slice (some ⟨g, 0, none⟩) M co) ((X.set m (X.getD j 0)).set j (X.getD m 0)) ∧ Below w4.heap.size w4 ((wr.setCell ⟨g, m, none⟩ (.int .i64 (X.getD j 0))).setCell ⟨g, j, none⟩ (.int .i64 (X.getD m 0)))) := Lib.hid (by
                  have h5 := ownI_put (ownI_put hAo m (X.getD j 0)) j (X.getD m 0)
                  rw [List.length_set, List.length_set, hXl] at h5
                  exact ⟨h5, (HX.out.2.2.setCell (p := ⟨g, m, none⟩) hg _).setCell (p := ⟨g, j, none⟩) hg _⟩)
                have HJE : Hid ((j : Int) - 1 = (M : Int) - 1 - ((m + 1 : Nat) : Int)) := Lib.hid (by omega)
                have HST := Lib.hid hst
                have hmj : m ≠ j := by omega
                have hjm2 : j ≠ m := by omega
                have hjM : (j : Int) < (M : Int) := by omega
                have hmM : (m : Int) < (M : Int) := by omega
                have hjN : j < M := by omega
                have hj0 : (0 : Int) ≤ (j : Int) := Int.natCast_nonneg _
                have hlt2 : (m : Int) < (j : Int) := by omega
                have hXX := HST.out.1
                clear how hAo hst hXl hj hlt
                rw [hjm]
                clear hjm
                generalize X.getD m 0 = zm at *
                generalize X.getD j 0 = zj at *
                go_wp2_with fail
                go_region
                go_wp2_with fail
                go_roundw
                case rel => exact ⟨m + 1, (X.set m zj).set j zm, by omega, by go_num, by rw [← HJE.out], Lib.hid ⟨HST.out, by first | exact HP2.out.1 | exact owns_keep HP2.out.1 (fun _ _ => rfl), by first | exact HP2.out.2 | exact HP2.out.2.drew | exact below_drewN HP2.out.2 _⟩⟩
                case measure => simp [intOf]; omega
              · have hlt : ¬ (m : Int) < (M : Int) - 1 - (m : Int) := by omega
                have HXE : Hid (X = o.reverse) := Lib.hid (HX.out.1.done (by rw [← HM.out]; omega))
                go_wp2_with fail
                go_ret2
                have h1 := HX.out.2.1
                rw [HXE.out] at h1
                have h2 : OwnI w4.heap.size wr (.slice Ao M co) o.reverse := h1
                have h3 := OwnI.ints h2 fun z hz => by
                  have := HBD.out z (List.mem_reverse.1 hz)
                  omega
                rw [HE5.out]
                exact ⟨⟨_, rfl, h3⟩, HB4.out.trans (HX.out.2.2.mono HB4.out.size)⟩
          · have hci : ((i + 1 : Nat) : Int) - 1 = (i : Int) := by omega
            rw [hci]
            clear hci
            have hi0 : (0 : Int) ≤ (i : Int) := Int.natCast_nonneg _
            have hiN : (i : Int) < (N : Int) := by omega
            have hkN : k < N := by omega
            obtain ⟨bl, ol, rfl, hcc⟩ := HPC.out (by omega)
            obtain ⟨p, n, hp, hn, hp1, hp2, hn1, hn2⟩ := HGOOD.out k hkN
            have hpn : S.getD i (0, 0) = L.getD k (0, 0) := (HREV.out i k (by omega)).symm
            have hrd := hcc i (by omega)
            rw [hpn, hp, hn] at hrd
            have HRD := Lib.hid hrd
            have HPN := Lib.hid (And.intro hp hn)
            obtain ⟨y1, y2⟩ := reads_pair hrd HI.out.below
            have hJ := Lib.hid (joinTo_ok HI.out.jto)
            have HLE := Lib.hid (atE_le (L := L) hJ.out)
            have hol : o.length ≤ k := hJ.out.len
            have hal : a ≤ o.length := hJ.out.at_
            have hab : (a : Int) ≤ 1000 := by omega
            have ha0 : (0 : Int) ≤ (a : Int) := Int.natCast_nonneg _
            obtain ⟨a', ha'⟩ : ∃ a', a' = atE L k a := ⟨_, rfl⟩
            have HA := Lib.hid ha'
            simp only at HLE
            rw [← ha'] at HLE
            have hal' : a' ≤ o.length := HLE.out
            clear ha' hp hn hpn hrd
            simp only
            obtain ⟨bb, hbb⟩ : ∃ bb, bb = decide (0 < k ∧ (L.getD k (0, 0)).1 ≠ (L.getD (k - 1) (0, 0)).1) := ⟨_, rfl⟩
            have HBB := Lib.hid hbb
            have HAB : Hid ((bb = true → a' = 0) ∧ (bb = false → a' = a)) := Lib.hid ⟨fun h5 => by
              rw [hbb] at h5
              rw [HA.out]; unfold atE; rw [if_pos (of_decide_eq_true h5)], fun h5 => by
              rw [hbb] at h5
              rw [HA.out]; unfold atE; rw [if_neg (of_decide_eq_false h5)]⟩
            clear hbb
            go_wp2_with fail
            go_cut [65] from 43 to 101 (fun z65 wx => z65 = .bool bb ∧ ∃ q, wx = wr.drewN q)
            case first =>
              rcases Nat.eq_zero_or_pos k with h0 | h0
              · have HEQ : Hid (bb = false) := Lib.hid (by rw [HBB.out]; exact decide_eq_false (by omega))
                have hdn : decide ((i : Int) + 1 < (N : Int)) = false := decide_eq_false (by omega)
                clear h0
                go_quiet (fail)
                go_wp2_with fail
                go_meet
                exact ⟨by rw [HEQ.out], by first | exact ⟨_, rfl⟩ | exact ex_drewN⟩
              · have hdn : decide ((i : Int) + 1 < (N : Int)) = true := decide_eq_true (by omega)
                have hrd2 := hcc (i + 1) (by omega)
                have hpn2 : S.getD (i + 1) (0, 0) = L.getD (k - 1) (0, 0) := (HREV.out (i + 1) (k - 1) (by omega)).symm
                rw [hpn2] at hrd2
                obtain ⟨v1, v2⟩ := reads_pair hrd2 HI.out.below
                have hnat : ((i : Int) + 1).toNat = i + 1 := by omega
                have HB2 : Hid (bb = ((p : Int) != (L.getD (k - 1) (0, 0)).1)) := Lib.hid (by
                  rw [HBB.out, HPN.out.1]
                  by_cases h5 : (p : Int) = (L.getD (k - 1) (0, 0)).1
                  · rw [decide_eq_false (fun h6 => h6.2 h5), ← h5]; simp
                  · rw [decide_eq_true ⟨h0, h5⟩]; exact (bne_iff_ne.2 h5).symm)
                clear hrd2 hpn2 hcc
                generalize L.getD (k - 1) (0, 0) = r at *
                cases h5 : ((p : Int) != r.1) with
                | true =>
                  have HEQ : Hid (bb = true) := Lib.hid (HB2.out.trans h5)
                  go_quiet (fail)
                  go_wp2_with fail
                  go_meet
                  exact ⟨by rw [HEQ.out], by first | exact ⟨_, rfl⟩ | exact ex_drewN⟩
                | false =>
                  have HEQ : Hid (bb = false) := Lib.hid (HB2.out.trans h5)
                  go_quiet (fail)
                  go_wp2_with fail
                  go_meet
                  exact ⟨by rw [HEQ.out], by first | exact ⟨_, rfl⟩ | exact ex_drewN⟩
            case rest =>
              obtain ⟨rfl, q7, rfl⟩ := hcut
              go_upto_if 65 with fail
              go_cut [7] from 43 to 101 (fun z7 wx => z7 = .int .i64 (a' : Int) ∧ wx = wr.drewN q7)
              case first =>
                cases hb5 : bb with
                | true =>
                  have HEQ : Hid ((a' : Int) = 0) := Lib.hid (by rw [HAB.out.1 hb5]; rfl)
                  clear hb5
                  go_wp2_with fail
                  go_meet
                  exact ⟨by rw [HEQ.out], rfl⟩
                | false =>
                  have HEQ : Hid (a' = a) := Lib.hid (HAB.out.2 hb5)
                  clear hb5
                  go_wp2_with fail
                  go_meet
                  exact ⟨by rw [HEQ.out], rfl⟩
              case rest =>
              obtain ⟨rfl, rfl⟩ := hcut
              have HI2 : Hid (OwnI w4.heap.size (wr.drewN q7) (.slice Ao o.length co) o ∧ Below w4.heap.size w4 (wr.drewN q7)) := Lib.hid ⟨owns_below HI.out.own (below_drewN (Below.refl _ _) _), below_drewN HI.out.below _⟩
              have HTO := Lib.hid HI.out.jto
              clear HI y1 y2
              generalize wr.drewN q7 = W7 at *
              obtain ⟨o2, ho2⟩ : ∃ o2, o2 = outE o a' := ⟨_, rfl⟩
              have HO2 := Lib.hid ho2
              have HLT : Hid (a' < o2.length) := Lib.hid (by rw [ho2]; exact outE_lt hal')
              have HBD : Hid (∀ z ∈ o2, 1 ≤ z ∧ z ≤ 1000000000) := Lib.hid (by rw [ho2]; exact outE_bd hJ.out.bd)
              have hol2 : o2.length ≤ k + 1 := by
                rw [ho2]
                unfold outE
                split
                · rw [List.length_append]; exact Nat.add_le_add_right hol 1
                · omega
              clear ho2
              have hal0 : (0 : Int) ≤ (a' : Int) := Int.natCast_nonneg _
              go_upto_if 69 with fail
              go_cut [6] from 43 to 101 (fun z6 wx => ∃ A6 c6, z6 = .slice A6 o2.length c6 ∧ Hid (OwnI w4.heap.size wx (.slice A6 o2.length c6) o2 ∧ Below w4.heap.size w4 wx))
              case first =>
                by_cases hae : a' = o.length
                · have hde : ((a' : Int) == (o.length : Int)) = true := by simp; omega
                  obtain ⟨A3, c3, w8, hr8, ho8, hg8, -⟩ := push_int 25 25 Tryz.underlying25 W7 w4.heap.size (.slice Ao o.length co) o HI2.out.1 1 (by omega) HI2.out.2.size
                  have HR8 := Lib.hid hr8
                  have HN8 : Hid (OwnI w4.heap.size w8 (.slice A3 o2.length c3) o2 ∧ Below w4.heap.size w4 w8 ∧ o2.length = o.length + 1) := Lib.hid (by
                    have e : o2 = o ++ [1] := by rw [HO2.out]; unfold outE; rw [if_pos hae]
                    have e2 : o2.length = o.length + 1 := by rw [e]; simp
                    rw [e2, e]
                    exact ⟨ho8, HI2.out.2.grown hg8 HI2.out.2.size (fun r hr => (owns_block HI2.out.1 r hr).1), rfl⟩)
                  clear hr8 ho8 hg8 hae
                  go_wp2_with ((with_reducible refine wpList_sel 72 ?_); refine wpList_val rfl (r_app (.tmp 70) (.tmp 71) 25 rfl rfl rfl HR8.out) ?_)
                  go_meet
                  exact ⟨A3, c3, by rw [HN8.out.2.2], Lib.hid ⟨HN8.out.1, HN8.out.2.1⟩⟩
                · have hde : ((a' : Int) == (o.length : Int)) = false := by simp; omega
                  have HEQ : Hid (o2 = o) := Lib.hid (by rw [HO2.out]; unfold outE; rw [if_neg hae])
                  clear hae
                  go_wp2_with fail
                  go_meet
                  exact ⟨Ao, co, by rw [HEQ.out], Lib.hid ⟨by rw [HEQ.out]; exact HI2.out.1, HI2.out.2⟩⟩
              case rest =>
                obtain ⟨A6, c6, rfl, HC6⟩ := hcut
                obtain ⟨g, rfl, -, hg, hMc, hcb⟩ := owns_xs HC6.out.1 (by have := HLT.out; omega)
                obtain ⟨z, hz⟩ : ∃ z, z = o2.getD a' 0 := ⟨_, rfl⟩
                obtain ⟨hz1, hz2⟩ := getD_bd HBD.out HLT.out
                rw [← hz] at hz1 hz2
                have hstep := join_step HTO.out HA.out.symm HO2.out.symm HPN.out.1 HPN.out.2
                rw [← hz] at hstep
                have HSTEP := Lib.hid hstep
                have HZ := Lib.hid hz
                clear hstep hz HA HO2 HTO HPN
                obtain ⟨M, hM⟩ : ∃ M, M = o2.length := ⟨_, rfl⟩
                rw [← hM] at HC6 HLT hMc hol2 ⊢
                have HM := Lib.hid hM
                have haM := HLT.out
                have haM2 : (a' : Int) < (M : Int) := by omega
                have hMb : (M : Int) ≤ 1001 := by omega
                clear hM
                go_wp2_with fail
                go_loopw [9] (fun zk wr => ∃ m : Nat, m ≤ n ∧ zk = .int .i64 m ∧ Hid (z * ((p ^ m : Nat) : Int) ≤ 1000000000 ∧ OwnI w4.heap.size wr (.slice (some ⟨g, 0, none⟩) M c6) (o2.set a' (z * ((p ^ m : Nat) : Int))) ∧ Below w4.heap.size w4 wr)) (fun zk _ => n - (intOf zk).toNat)
                case atStart => exact ⟨0, by omega, rfl, Lib.hid ⟨by simpa using hz2, by
                  rw [Nat.pow_zero, Int.natCast_one, Int.mul_one, HZ.out, set_getD_self]
                  exact HC6.out.1, HC6.out.2⟩⟩
                case round =>
                  obtain ⟨m, hm, rfl, HQ⟩ := hrel
                  have hm0 : (0 : Int) ≤ (m : Int) := Int.natCast_nonneg _
                  have hn2i : (n : Int) ≤ 9223372036854775807 := by omega
                  obtain ⟨x1, x2⟩ := reads_pair HRD.out HQ.out.2.2
                  by_cases hmn : m < n
                  · have hmn' : (m : Int) < (n : Int) := by omega
                    have hms := mul_pow_step z p m
                    have hone := one_le_pow (n := m) hz1 hp1
                    have hle := HQ.out.1
                    have hown := HQ.out.2.1
                    have hle2 : (o2.set a' (z * ((p ^ m : Nat) : Int))).length = M := by rw [List.length_set, HM.out]
                    have hown2 := hown
                    rw [← hle2] at hown2
                    have hca := ownI_cell hown2 (a := a') (by omega)
                    rw [getD_set_int _ _ _ _ (by rw [← HM.out]; exact haM), if_pos rfl] at hca
                    have hfa : wr.frozen? ⟨g, a', none⟩ = false := World.ownsRow.frozenAt hown2 a'
                    have hmul0 : 0 ≤ z * ((p ^ m : Nat) : Int) * (p : Int) := Int.mul_nonneg (by omega) (by omega)
                    have hmulb : z * ((p ^ m : Nat) : Int) * (p : Int) ≤ 1000000000 * 1000000 := Int.mul_le_mul hle (by omega) (by omega) (by omega)
                    have HPUT : Hid (OwnI w4.heap.size (wr.setCell ⟨g, a', none⟩ (.int .i64 (z * ((p ^ (m + 1) : Nat) : Int)))) (.slice (some ⟨g, 0, none⟩) M c6) (o2.set a' (z * ((p ^ (m + 1) : Nat) : Int))) ∧ Below w4.heap.size w4 (wr.setCell ⟨g, a', none⟩ (.int .i64 (z * ((p ^ (m + 1) : Nat) : Int))))) := Lib.hid (by
                      have h5 := ownI_put hown2 a' (z * ((p ^ (m + 1) : Nat) : Int))
                      rw [List.set_set, List.length_set, ← HM.out] at h5
                      exact ⟨h5, HQ.out.2.2.setCell (p := ⟨g, a', none⟩) hg _⟩)
                    have HOV : Hid (1000000000 < z * ((p ^ (m + 1) : Nat) : Int) → R = ([], 5)) := Lib.hid fun hov => by
                      have h6 := HSTEP.out
                      rw [if_pos (powE_over hz1 hp1 (Nat.succ_le_of_lt hmn) hov)] at h6
                      rw [HE2.out, joinOf_none]
                      have h7 := joinTo_none h6 i
                      rwa [show k + 1 + i = N by omega] at h7
                    rw [hms] at hmul0 hmulb
                    clear hown hown2 hle2 hone
                    obtain ⟨y, hy⟩ : ∃ y, y = z * ((p ^ (m + 1) : Nat) : Int) := ⟨_, rfl⟩
                    rw [← hy] at hms hmul0 hmulb HPUT HOV
                    have HY := Lib.hid hy
                    clear hy
                    generalize z * ((p ^ m : Nat) : Int) = zm at *
                    have hwz : IntKind.i64.wrap (zm * (p : Int)) = y := by rw [hms]; exact IntWalk.i64_in _ (by omega)
                    clear hms
                    by_cases hov : 1000000000 < y
                    · have HE7 := Lib.hid (HOV.out hov)
                      clear HOV
                      go_wp2_with fail
                      go_still_tail 13, (by kernel_rfl)
                      go_wp2_with fail
                      go_ret2
                      rw [HE7.out]
                      exact ⟨⟨_, rfl, intsAt_nil⟩, HB4.out.trans (Below.mono (by first | exact HPUT.out.2 | exact HPUT.out.2.drew | exact below_drewN HPUT.out.2 _) HB4.out.size)⟩
                    · have hov2 : ¬ (1000000000 : Int) < y := hov
                      have hyb : y ≤ 1000000000 := by omega
                      clear HOV
                      go_wp2_with fail
                      go_still_tail 13, (by kernel_rfl)
                      go_wp2_with fail
                      go_roundw
                      case rel => exact ⟨m + 1, by omega, by go_num, Lib.hid ⟨by rw [← HY.out]; exact hyb, by rw [← HY.out]; first | exact HPUT.out.1 | exact owns_keep HPUT.out.1 (fun _ _ => rfl), by first | exact HPUT.out.2 | exact HPUT.out.2.drew | exact below_drewN HPUT.out.2 _⟩⟩
                      case measure => simp [intOf]; omega
                  · obtain rfl : m = n := by omega
                    have HNX : Hid (JoSt L w4 wr (k + 1) (o2.set a' (z * ((p ^ m : Nat) : Int)), a' + 1) (some ⟨g, 0, none⟩) c6) := Lib.hid ⟨by
                      have h6 := HSTEP.out
                      have h7 := powE_in hz1 HQ.out.1
                      have h8 := one_le_pow (n := m) hz1 hp1
                      rw [h7, if_neg (by have := HQ.out.1; omega)] at h6
                      exact h6, by
                      have h9 := HQ.out.2.1
                      unfold OwnI at h9
                      rw [List.length_set, ← HM.out] at h9
                      show OwnI _ _ (.slice _ (o2.set a' _).length _) _
                      unfold OwnI
                      rw [List.length_set, ← HM.out]
                      exact h9, HQ.out.2.2⟩
                    go_wp2_with fail
                    go_roundw
                    case rel => exact ⟨i, k + 1, (o2.set a' (z * ((p ^ m : Nat) : Int)), a' + 1), some ⟨g, 0, none⟩, c6, by omega, by go_num, by go_num, by rw [List.length_set, HM.out], HNX⟩
                    case measure => simp [intOf] <;> omega
end Go.Proofs
namespace Go.Proofs
open Go.RowKit Go.Shelf Go.Proofs.Sm
theorem eq56 (a b c d : Int) (w : World) : (Op.equalIn 10000 38 (.agg #[.int .i64 a, .int .i64 b]) (.agg #[.int .i64 c, .int .i64 d])).run Tryz.prog w = .ok (a == c && b == d) w := by
  have u3 := Tryz.underlying3
  have a3 := Tryz.isAgg3
  have z3 := Tryz.sizeOf3
  rw [show (10000 : Nat) = 9999 + 1 from rfl, Op.equalIn]
  simp only [Sem.run_bind, run_underlying Tryz.underlying38, Result.andThen_ok]
  simp only [Std.Legacy.Range.forIn_eq_forIn_range', Std.Legacy.Range.size, Nat.sub_zero, Nat.add_sub_cancel, Nat.div_one, List.range'_succ, List.range'_zero, List.forIn_cons, List.forIn_nil]
  go_simp
  by_cases h1 : a = c <;> by_cases h2 : b = d <;> simp [h1, h2]
attribute [local go_sem] eq56
set_option maxRecDepth 100000 in
theorem same31_true (w : World) (va vb : Value) (ps : List Pr) (ha : PrsAt w va ps) (hb : PrsAt w vb ps) : Calls Tryz.prog 12 #[va, vb] w fun e w' => e = .returned (.bool true) ∧ ∃ q, w' = w.drewN q := by
  obtain ⟨A, ca, rfl, ha1, ha2, ha3⟩ := ha.at_
  obtain ⟨B, cb, rfl, hb1, hb2, hb3⟩ := hb.at_
  have HA := Lib.hid ha3
  have HB := Lib.hid hb3
  have hd0 : (((ps.length : Nat) : Int) != ((ps.length : Nat) : Int)) = false := by simp
  have hd1 : (ps.length != ps.length) = false := by simp
  clear ha hb ha3 hb3
  go_enter Tryz.func12, Tryz.ntmps12
  go_wp2_with fail
  go_loopw [5] (fun z wr => ∃ k : Nat, k ≤ ps.length ∧ z = .int .i64 k ∧ ∃ q, wr = w.drewN q) (fun z _ => ps.length - (intOf z).toNat)
  case atStart => exact ⟨0, by omega, rfl, 0, rfl⟩
  case round =>
    obtain ⟨k, hk, rfl, q, rfl⟩ := hrel
    have hk0 : (0 : Int) ≤ (k : Int) := Int.natCast_nonneg _
    by_cases hkl : k < ps.length
    · have hkl' : (k : Int) < (ps.length : Int) := by omega
      obtain ⟨b1, o1, rfl, h1⟩ := HA.out (by omega)
      obtain ⟨b2, o2, rfl, h2⟩ := HB.out (by omega)
      obtain ⟨x1, x2⟩ := h1 k hkl
      obtain ⟨y1, y2⟩ := h2 k hkl
      clear h1 h2
      generalize (ps.getD k (0, 0)).1 = x at *
      generalize (ps.getD k (0, 0)).2 = y at *
      have e1 : (x == x) = true := by simp
      have e2 : (y == y) = true := by simp
      go_wp2_with fail
      go_quiet (fail)
      go_wp2_with fail
      go_roundw
      case rel => exact ⟨k + 1, by omega, by go_num, (by first | exact ⟨_, rfl⟩ | exact ex_drewN)⟩
      case measure => simp [intOf]; omega
    · obtain rfl : k = ps.length := by omega
      go_wp2_with fail
      go_ret
      exact ⟨rfl, _, rfl⟩
end Go.Proofs
namespace Go.Proofs
open Go.RowKit Go.Shelf Go.Proofs.Sm
def YesP (w : World) (e : Ending) (w' : World) : Prop := e = .returned (.bool true) ∧ Below w.heap.size w w'
theorem first_of (P : Nat → Prop) [DecidablePred P] : ∀ L, (∀ k, k < L → ¬ P k) ∨ ∃ k0, k0 < L ∧ P k0 ∧ ∀ k, k < k0 → ¬ P k
  | 0 => .inl fun k hk => absurd hk (Nat.not_lt_zero _)
  | L + 1 => by
    rcases first_of P L with h | ⟨k0, h1, h2, h3⟩
    · by_cases hL : P L
      · exact .inr ⟨L, Nat.lt_succ_self _, hL, h⟩
      · refine .inl fun k hk => ?_
        rcases Nat.eq_or_lt_of_le (Nat.le_of_lt_succ hk) with rfl | h4
        · exact hL
        · exact h k h4
    · exact .inr ⟨k0, by omega, h2, h3⟩
theorem abelian_both (w : World) (v : Value) (R : List (List Int)) (n : Int) (h : Tab w v R) : ∃ t free er,
    (∀ W, Below w.heap.size w W → Calls Tryz.prog 5 #[.agg #[.int .i64 n, v]] W (GroupPost t free er W)) ∧ ∀ W, Below w.heap.size w W → Calls Tryz.prog 6 #[.agg #[.int .i64 n, v]] W (GroupPost t free er W) := by
  have HT : ∀ W, Below w.heap.size w W → Tab W v R := fun W hW => kept_tab.below h hW
  by_cases h1 : n < 1 ∨ 16 < n
  · exact ⟨[], 0, 2, fun W hW => abelian26_range W v R n (HT W hW) h1, fun W hW => abelian6_range W v R n (HT W hW) h1⟩
  · obtain ⟨m, rfl⟩ : ∃ m : Nat, n = (m : Int) := ⟨n.toNat, by omega⟩
    have hm1 : 1 ≤ m := by omega
    have hm2 : m ≤ 16 := by omega
    by_cases h2 : 100 < R.length
    · exact ⟨[], 0, 4, fun W hW => abelian26_long W v R _ (HT W hW) (by omega) (by omega) h2, fun W hW => abelian6_long W v R _ (HT W hW) (by omega) (by omega) h2⟩
    · rcases first_of (fun k => wordE m (R.getD k []) ≠ 0) R.length with h3 | ⟨k0, h3, h4, h5⟩
      · have hok : ∀ x ∈ R, WordOk m x := fun x hx => by
          obtain ⟨k, hk, rfl⟩ := List.getElem_of_mem hx
          have := h3 k hk
          rw [List.getD_eq_getElem?_getD, List.getElem?_eq_getElem hk, Option.getD_some] at this
          exact wordOk_of (Classical.not_not.1 this)
        obtain ⟨t, free, er, hE⟩ := grE_ex (m : Int) (R.map (sumsE m))
        exact ⟨t, free, er, fun W hW => abelian26_ok W v R m (HT W hW) hm1 hm2 (by omega) hok hE, fun W hW => abelian6_ok W v R m (HT W hW) hm1 hm2 (by omega) hok hE⟩
      · exact ⟨[], 0, _, fun W hW => abelian26_bad W v R m (HT W hW) hm1 hm2 (by omega) k0 h3 (fun k hk => Classical.not_not.1 (h5 k hk)) rfl h4, fun W hW => abelian6_bad W v R m (HT W hW) hm1 hm2 (by omega) k0 h3 (fun k hk => Classical.not_not.1 (h5 k hk)) rfl h4⟩
set_option maxRecDepth 100000 in
set_option maxHeartbeats 4000000 in
theorem groups3_any (w : World) (n : Int) (v vt vp : Value) (R : List (List Int)) (tt : List Int) (pp : List Pr) (h : Tab w v R) (h2 : IntsAt w vt tt) (h3 : PrsAt w vp pp) (h4 : PFits pp) :
    Calls Tryz.prog 3 #[.agg #[.int .i64 n, v], vt, vp] w (YesP w) := by
  obtain ⟨t, free, er, hA5, hA6⟩ := abelian_both w v R n h
  have H4 := Lib.hid fun W => lives9_any W
  have H5 := Lib.hid hA5
  have H6 := Lib.hid hA6
  have H7 : Hid (∀ W, Below w.heap.size w W → Calls Tryz.prog 7 #[vt] W (PowersPost (powersE tt) W)) := Lib.hid fun W hW => powers27_any W vt tt (kept_ints.below h2 hW)
  have H8 : Hid (∀ W, Below w.heap.size w W → Calls Tryz.prog 8 #[vt] W (PowersPost (powersE tt) W)) := Lib.hid fun W hW => powers8_any W vt tt (kept_ints.below h2 hW)
  have H9 : Hid (∀ W, Below w.heap.size w W → Calls Tryz.prog 9 #[vp] W (JoinPost (joinE pp) W)) := Lib.hid fun W hW => join29_any W vp pp (h3.below hW) h4
  have H10 : Hid (∀ W, Below w.heap.size w W → Calls Tryz.prog 10 #[vp] W (JoinPost (joinE pp) W)) := Lib.hid fun W hW => join10_any W vp pp (h3.below hW) h4
  obtain ⟨A, c, rfl, g1, g2, g3⟩ := LAt.open_ h
  have HC : Hid (0 < R.length → ∃ b off, A = some ⟨b, off, none⟩ ∧ ∀ k, k < R.length → ∃ Ak ck, w.cell? ⟨b, off + k, none⟩ = some (.slice Ak (R.getD k []).length ck)) := Lib.hid fun h0 => by
    obtain ⟨b, o, e, hh⟩ := g3 h0
    refine ⟨b, o, e, fun k hk => ?_⟩
    obtain ⟨u, hu, hI⟩ := hh k hk
    obtain ⟨Ak, ck, rfl, -, -, -⟩ := hI.open_
    exact ⟨Ak, ck, hu⟩
  obtain ⟨At, ct, rfl, -, -, -⟩ := h2.open_
  obtain ⟨Ap, cp, rfl, -, -, -⟩ := h3.at_
  clear h h2 h3 h4 hA5 hA6 g3
  obtain ⟨L, hL⟩ : ∃ L, L = R.length := ⟨_, rfl⟩
  rw [← hL] at g1 HC ⊢
  rw [← hL] at H5 H6
  clear hL
  generalize powersE tt = P at *
  generalize joinE pp = J at *
  generalize tt.length = T at *
  generalize pp.length = U at *
  have hb0 : Below w.heap.size w (w.alloc (.cells #[.int .i64 n, .slice A L c] 24)) := (Below.refl _ _).alloc (Nat.le_refl _) _
  have hbx : (w.alloc (.cells #[.int .i64 n, .slice A L c] 24)).cell? ⟨w.heap.size, 0, none⟩ = some (.int .i64 n) := by rw [cell_of_row _ _ _ _ _ _ (heap_alloc_new w _)]; rfl
  have hby : (w.alloc (.cells #[.int .i64 n, .slice A L c] 24)).cell? ⟨w.heap.size, 1, none⟩ = some (.slice A L c) := by rw [cell_of_row _ _ _ _ _ _ (heap_alloc_new w _)]; rfl
  have HBX := Lib.hid (And.intro hbx hby)
  have HB0 := Lib.hid hb0
  clear hbx hby hb0
  go_enter Tryz.func3, Tryz.ntmps3
  go_wp2_with fail
  generalize hb : w.heap.size = b at *
  generalize w.alloc (.cells #[.int .i64 n, .slice A L c] 24) = w0 at *
  have HUP : Hid (∀ W, Below w0.heap.size w0 W → Below b w W) := Lib.hid fun W hW => HB0.out.trans (hW.mono (by have := HB0.out.size; rw [hb] at this; exact this))
  by_cases q1 : 20 < L
  · have hd1 : decide ((20 : Int) < (L : Int)) = true := decide_eq_true (by omega)
    clear q1
    go_wp2_with (go_at_call 4; (refine (H4.out _).mono ?_); rintro e w1 ⟨rfl, hb1⟩; have HB1 := Lib.hid hb1; have hy := below_see HB1.out HBX.out.2; clear hb1)
    go_ret
    exact ⟨rfl, by rw [hb]; exact HUP.out _ HB1.out⟩
  · have hd1 : decide ((20 : Int) < (L : Int)) = false := decide_eq_false (by omega)
    by_cases q2 : 20 < T
    · have hd2 : decide ((20 : Int) < (T : Int)) = true := decide_eq_true (by omega)
      clear q1 q2
      go_wp2_with (go_at_call 4; (refine (H4.out _).mono ?_); rintro e w1 ⟨rfl, hb1⟩; have HB1 := Lib.hid hb1; have hy := below_see HB1.out HBX.out.2; clear hb1)
      go_ret
      exact ⟨rfl, by rw [hb]; exact HUP.out _ HB1.out⟩
    · have hd2 : decide ((20 : Int) < (T : Int)) = false := decide_eq_false (by omega)
      by_cases q3 : 20 < U
      · have hd3 : decide ((20 : Int) < (U : Int)) = true := decide_eq_true (by omega)
        clear q1 q2 q3
        go_wp2_with (go_at_call 4; (refine (H4.out _).mono ?_); rintro e w1 ⟨rfl, hb1⟩; have HB1 := Lib.hid hb1; have hy := below_see HB1.out HBX.out.2; clear hb1)
        go_ret
        exact ⟨rfl, by rw [hb]; exact HUP.out _ HB1.out⟩
      · have hd3 : decide ((20 : Int) < (U : Int)) = false := decide_eq_false (by omega)
        have hLb : (L : Int) ≤ 20 := by omega
        clear q1 q2 q3
        go_wp2_with (go_at_call 4; (refine (H4.out _).mono ?_); rintro e w1 ⟨rfl, hb1⟩; have HB1 := Lib.hid hb1; have hy := below_see HB1.out HBX.out.2; clear hb1)
        clear hy
        go_loopw [7] (fun z wr => ∃ k : Nat, k ≤ L ∧ z = .int .i64 k ∧ Hid (Below w0.heap.size w0 wr)) (fun z _ => L - (intOf z).toNat)
        case atStart => exact ⟨0, by omega, rfl, Lib.hid HB1.out⟩
        case round =>
          obtain ⟨k, hk, rfl, HI⟩ := hrel
          have hk0 : (0 : Int) ≤ (k : Int) := Int.natCast_nonneg _
          have hx := below_see HI.out HBX.out.1
          have hy := below_see HI.out HBX.out.2
          by_cases hkl : k < L
          · have hkl' : (k : Int) < (L : Int) := by omega
            obtain ⟨bo, oo, rfl, hcc⟩ := HC.out (by omega)
            obtain ⟨Ak, ck, hu⟩ := hcc k hkl
            have hup := HUP.out _ HI.out
            have hu' := (hup.cell (p := ⟨bo, oo + k, none⟩) (by rw [← hb]; exact World.block_lt_of_cell? w _ hu)).trans hu
            clear hcc hu
            generalize (R.getD k []).length = rl at *
            by_cases hrl : 40 < rl
            · have hd4 : decide ((40 : Int) < (rl : Int)) = true := decide_eq_true (by omega)
              have HUPP := Lib.hid hup
              clear hrl hup
              go_wp2_with fail
              go_ret
              exact ⟨rfl, by rw [hb]; exact HUPP.out⟩
            · have hd4 : decide ((40 : Int) < (rl : Int)) = false := decide_eq_false (by omega)
              clear hrl hup
              go_wp2_with fail
              go_roundw
              case rel => exact ⟨k + 1, by omega, by go_num, HI⟩
              case measure => simp [intOf]; omega
          · obtain rfl : k = L := by omega
            have e1 : (er == er) = true := by simp
            have e3 : (free == free) = true := by simp
            have e4 : (P.2 == P.2) = true := by simp
            have e5 : (J.2 == J.2) = true := by simp
            clear HC H4 hkl
            go_wp2_with (first
              | (go_at_call 5
                 (refine (H5.out _ (HUP.out _ HI.out)).mono ?_)
                 rintro e w5 ⟨⟨v5, rfl, i5⟩, b5⟩
                 have K5 := Lib.hid (HI.out.trans (b5.mono HI.out.size))
                 have S5 := Lib.hid i5
                 have hx5 := below_see K5.out HBX.out.1
                 have hy5 := below_see K5.out HBX.out.2
                 obtain ⟨A5, c5, rfl, -, -, -⟩ := i5.open_
                 clear i5 b5)
              | (go_at_call 6
                 (refine (H6.out _ (HUP.out _ K5.out)).mono ?_)
                 rintro e w6 ⟨⟨v6, rfl, i6⟩, b6⟩
                 have K6 := Lib.hid (K5.out.trans (b6.mono K5.out.size))
                 have S6 := Lib.hid (And.intro (kept_ints.below S5.out b6) i6)
                 obtain ⟨A6, c6, rfl, -, -, -⟩ := i6.open_
                 clear i6 b6)
              | (go_at_call 7
                 (refine (H7.out _ (HUP.out _ K6.out)).mono ?_)
                 rintro e w7 ⟨⟨A7, c7, rfl, i7⟩, b7⟩
                 have K7 := Lib.hid (K6.out.trans (b7.mono K6.out.size))
                 have S7 := Lib.hid (And.intro (kept_ints.below S6.out.1 b7) (And.intro (kept_ints.below S6.out.2 b7) (OwnP.prs i7)))
                 clear i7 b7)
              | (go_at_call 8
                 (refine (H8.out _ (HUP.out _ K7.out)).mono ?_)
                 rintro e w8 ⟨⟨A8, c8, rfl, i8⟩, b8⟩
                 have K8 := Lib.hid (K7.out.trans (b8.mono K7.out.size))
                 have S8 := Lib.hid (And.intro (kept_ints.below S7.out.1 b8) (And.intro (kept_ints.below S7.out.2.1 b8) (And.intro (S7.out.2.2.below b8) (OwnP.prs i8))))
                 clear i8 b8)
              | (go_at_call 9
                 (refine (H9.out _ (HUP.out _ K8.out)).mono ?_)
                 rintro e w9 ⟨⟨v9, rfl, i9⟩, b9⟩
                 have K9 := Lib.hid (K8.out.trans (b9.mono K8.out.size))
                 have S9 := Lib.hid (And.intro (kept_ints.below S8.out.1 b9) (And.intro (kept_ints.below S8.out.2.1 b9) (And.intro (S8.out.2.2.1.below b9) (And.intro (S8.out.2.2.2.below b9) i9))))
                 obtain ⟨A9, c9, rfl, -, -, -⟩ := i9.open_
                 clear i9 b9)
              | (go_at_call 10
                 (refine (H10.out _ (HUP.out _ K9.out)).mono ?_)
                 rintro e w10 ⟨⟨v10, rfl, i10⟩, b10⟩
                 have K10 := Lib.hid (HUP.out _ (K9.out.trans (b10.mono K9.out.size)))
                 have E1 := Lib.hid (same17_any w10 _ _ _ _ (kept_ints.below S9.out.1 b10) (kept_ints.below S9.out.2.1 b10))
                 have E2 := Lib.hid fun q => same31_true (w10.drewN q) _ _ _ ((S9.out.2.2.1.below b10).below (below_drewN (Below.refl _ _) q)) ((S9.out.2.2.2.1.below b10).below (below_drewN (Below.refl _ _) q))
                 have E3 := Lib.hid fun q => same17_any (w10.drewN q) _ _ _ _ ((kept_ints.below S9.out.2.2.2.2 b10).drewN q) (i10.drewN q)
                 rw [decide_eq_true rfl] at E1 E3
                 obtain ⟨A10, c10, rfl, -, -, -⟩ := i10.open_
                 clear i10 b10)
              | (go_at_call 11; (with_reducible refine E1.out.mono ?_); rintro e w' ⟨rfl, q7, rfl⟩)
              | (go_at_call 12; (with_reducible refine (E2.out _).mono ?_); rintro e w' ⟨rfl, q8, rfl⟩; simp only [World.drewN_drewN])
              | (go_at_call 11; (with_reducible refine (E3.out _).mono ?_); rintro e w' ⟨rfl, q9, rfl⟩; simp only [World.drewN_drewN]))
            go_ret
            exact ⟨rfl, by rw [hb]; exact below_drewN K10.out _⟩
end Go.Proofs
namespace Go.Proofs
open Go.RowKit Go.ChangeShapes Go.WideShapes Go.ChangeAt Go.Deep
section
variable {H : Type} {enc : TypeId × Value → H} {W : World}
theorem spot_none {a : Addr} {v : Value} (h : W.cell? (a.add 0) = some v) : a = ⟨a.block, a.off, none⟩ := by
  obtain ⟨b, o, s⟩ := a
  cases s with
  | none => rfl
  | some q =>
    exfalso
    have e : ({ block := b, off := o, spot := some q } : Addr).add 0 = { block := b, off := o, spot := some q } := by unfold Addr.add; rw [if_pos rfl]
    rw [e] at h
    unfold World.cell? at h
    simp only [Option.isSome_some, if_true] at h
    split at h <;> cases h
theorem wf_fits {x : Int} (h : (Lit.int .i64 x).wf = true) : -9223372036854775808 ≤ x ∧ x ≤ 9223372036854775807 := by
  simpa [Lit.wf, IntKind.min, IntKind.max, IntKind.signed, IntKind.bits] using h
theorem lat_of_trod {α : Type} {R : World → Value → α → Prop} {d : α} {t e : TypeId} {base fuel : Nat} {spare : Nat → Bool} {held : Bool} {v : Value} {x : DataW H × List MemPlace} (ht : Tryz.prog.underlying t = some (.slice e)) (hc : Tryz.prog.cellsOf e = 1)
    (hR : ∀ n u y, DataW.trod enc Tryz.prog W base spare held n e [u] = some y → ∃ z, R W u z) (h : DataW.trod enc Tryz.prog W base spare held fuel t [v] = some x) : ∃ xs, LAt R d W v xs := by
  rcases open_slice1 ht hc h with ⟨hv, -⟩ | ⟨a, len, cap, m, n, V, D, Pl, hv, -, hl, hm, hmm, -, hx⟩
  · obtain rfl : v = .slice none 0 0 := by simpa using hv
    exact ⟨[], [], ⟨none, 0, 0, rfl, rfl, Nat.le_refl _, by simp [maxLen], fun h => absurd h (by simp)⟩, rfl, fun i hi => absurd hi (by simp)⟩
  · obtain rfl : v = .slice (some a) len cap := by simpa using hv
    have hlm : len ≤ m := by rw [hmm]; split <;> omega
    have hz : ∀ i, i < len → ∃ z, R W (V i) z := fun i hi => hR n (V i) _ (hx i (by omega)).2
    have hf : ∃ f : Nat → α, ∀ i, i < len → R W (V i) (f i) := by
      have hz' : ∀ i, ∃ z, i < len → R W (V i) z := fun i => by
        by_cases hi : i < len
        · obtain ⟨z, hz⟩ := hz i hi; exact ⟨z, fun _ => hz⟩
        · exact ⟨d, fun h => absurd h hi⟩
      exact ⟨fun i => Classical.choose (hz' i), fun i => Classical.choose_spec (hz' i)⟩
    obtain ⟨f, hf⟩ := hf
    refine ⟨(List.range len).map f, (List.range len).map V, ⟨_, len, cap, rfl, by simp, hl, hm, fun h0 => ?_⟩, by simp, fun i hi => ?_⟩
    · have hsp := spot_none (hx 0 (by omega)).1
      refine ⟨a.block, a.off, by rw [← hsp], fun j u hu => ?_⟩
      have hj : j < len := by have := (List.getElem?_eq_some_iff.1 hu).1; simpa using this
      have := (hx j (by omega)).1
      rw [hsp, Addr.add_lit] at this
      rw [this, ← hu]
      simp [List.getElem?_range hj]
    · have hi' : i < len := by simpa using hi
      refine ⟨V i, by simp [List.getElem?_range hi'], ?_⟩
      have : ((List.range len).map f).getD i d = f i := by simp [List.getD_eq_getElem?_getD, List.getElem?_range hi']
      rw [this]
      exact hf i hi'
theorem intsT_of_trod {t : TypeId} (ht : Tryz.prog.underlying t = some (.slice 3)) {base fuel : Nat} {spare : Nat → Bool} {held : Bool} {v : Value} {x : DataW H × List MemPlace} (h : DataW.trod enc Tryz.prog W base spare held fuel t [v] = some x) : ∃ xs, IntsAt W v xs := by
  obtain ⟨xs, vs, hS, hl, he⟩ := lat_of_trod (R := fun _ u z => u = .int .i64 z ∧ (Lit.int .i64 z).wf = true) (d := 0) ht (by kernel_rfl) (fun n u y hy => by
    obtain ⟨m, hu, -, hw⟩ := DataW.trod_int Tryz.underlying3 hy
    exact ⟨m, by simpa using hu, hw⟩) h
  have hvs : vs = ints xs := by
    apply List.ext_getElem (by simpa [ints] using hl)
    intro i h1 h2
    obtain ⟨u, hu, rfl, -⟩ := he i (by omega)
    have hi : i < xs.length := by omega
    rw [List.getElem?_eq_getElem h1] at hu
    rw [Option.some.inj hu]
    simp [ints, List.getD_eq_getElem?_getD, hi]
  refine ⟨xs, hvs ▸ hS, fun z hz => ?_⟩
  obtain ⟨i, hi, rfl⟩ := List.getElem_of_mem hz
  obtain ⟨u, -, -, hw⟩ := he i hi
  have e : xs.getD i 0 = xs[i] := by simp [List.getD_eq_getElem?_getD, hi]
  rw [e] at hw
  exact wf_fits hw
theorem ints_of_trod {base fuel : Nat} {spare : Nat → Bool} {held : Bool} {v : Value} {x : DataW H × List MemPlace} (h : DataW.trod enc Tryz.prog W base spare held fuel 25 [v] = some x) : ∃ xs, IntsAt W v xs := intsT_of_trod Tryz.underlying25 h
end
end Go.Proofs
namespace Go.Proofs
open Go.RowKit Go.ChangeShapes Go.WideShapes Go.ChangeAt Go.Deep
section
variable {H : Type} {enc : TypeId × Value → H} {W : World}
theorem cells24p : Tryz.prog.cellsOf 24 = 2 := by kernel_rfl
theorem cells3p : Tryz.prog.cellsOf 3 = 1 := by kernel_rfl
theorem cells22p : Tryz.prog.cellsOf 22 = 1 := by kernel_rfl
theorem cells38p : Tryz.prog.cellsOf 38 = 2 := by kernel_rfl
theorem words_of_trod {base fuel : Nat} {spare : Nat → Bool} {held : Bool} {v : Value} {x : DataW H × List MemPlace} (h : DataW.trod enc Tryz.prog W base spare held fuel 22 [v] = some x) : ∃ L, Tab W v L :=
  lat_of_trod Tryz.underlying22 (by kernel_rfl) (fun _ _ _ hy => intsT_of_trod Tryz.underlying28 hy) h
set_option maxRecDepth 100000 in
theorem pres_of_trod {base : Nat} {spare : Nat → Bool} {held : Bool} {v : Value} {d : DataW H} {ps : List MemPlace} (h : DataW.Trod enc Tryz.prog W base spare held 24 v d ps) : ∃ g a1 P, v = .agg #[.int .i64 g, a1] ∧ Tab W a1 P := by
  obtain ⟨fuel, hf⟩ := h
  obtain ⟨y0, y1, n, -, hlen, h0, h1⟩ := trod_struct2 Tryz.underlying24 hf
  rw [cells24p] at hlen
  obtain ⟨cs, rfl⟩ : ∃ cs, v = .agg cs := by
    cases v <;> simp [Value.cells] at hlen
    exact ⟨_, rfl⟩
  have hcs : cs.toList.length = 2 := hlen
  obtain ⟨l⟩ := cs
  match l, hcs with
  | [a0, a1], _ =>
    simp [Value.cells, cells3p, cells22p] at h0 h1
    obtain ⟨m, hu, -, -⟩ := DataW.trod_int Tryz.underlying3 h0
    obtain ⟨L, hL⟩ := words_of_trod h1
    have e : a0 = .int .i64 m := by simpa using hu
    subst e
    exact ⟨m, a1, L, rfl, hL⟩
set_option maxRecDepth 100000 in
theorem prs_of_trod {base fuel : Nat} {spare : Nat → Bool} {held : Bool} {v : Value} {x : DataW H × List MemPlace} (h : DataW.trod enc Tryz.prog W base spare held fuel 26 [v] = some x) : ∃ ps, PrsAt W v ps ∧ PFits ps := by
  rcases open_slice Tryz.underlying26 h with ⟨hv, -⟩ | ⟨a, len, cap, m, n, D, Pl, hv, -, hl, hm, hmm, -, hx⟩
  · obtain rfl : v = .slice none 0 0 := by simpa using hv
    exact ⟨[], prsAt_nil W, fun p hp => by cases hp⟩
  · obtain rfl : v = .slice (some a) len cap := by simpa using hv
    rw [cells38p] at hx
    have hlm : len ≤ m := by rw [hmm]; split <;> omega
    have hz : ∀ i, ∃ p : Pr, i < len → (W.cell? ((a.add (i * 2)).add 0) = some (.int .i64 p.1) ∧ W.cell? ((a.add (i * 2)).add 1) = some (.int .i64 p.2)) ∧ In64 p.1 ∧ In64 p.2 := fun i => by
      by_cases hi : i < len
      · obtain ⟨cs', h1, h2⟩ := hx i (by omega)
        obtain ⟨-, hlen, hcell⟩ := World.cells?_some h1
        obtain ⟨xs, m', -, -, -, hxl, hel⟩ := DataW.trod_array Tryz.underlying38 h2
        match cs', hlen with
        | [u0, u1], _ =>
          have e0 := hel 0 (by omega)
          have e1 := hel 1 (by omega)
          rw [List.getElem?_eq_getElem (by omega)] at e0 e1
          simp only [cells3p, Nat.zero_mul, Nat.one_mul, List.drop_zero, List.drop_succ_cons, List.take_succ_cons, List.take_zero] at e0 e1
          obtain ⟨x0, hu0, -, hw0⟩ := DataW.trod_int Tryz.underlying3 e0
          obtain ⟨x1, hu1, -, hw1⟩ := DataW.trod_int Tryz.underlying3 e1
          have f0 : u0 = .int .i64 x0 := by simpa using hu0
          have f1 : u1 = .int .i64 x1 := by simpa using hu1
          subst f0 f1
          exact ⟨(x0, x1), fun _ => ⟨⟨hcell 0 (by omega), hcell 1 (by omega)⟩, wf_fits hw0, wf_fits hw1⟩⟩
      · exact ⟨(0, 0), fun h => absurd h hi⟩
    obtain ⟨f, hf⟩ : ∃ f : Nat → Pr, ∀ i, i < len → (W.cell? ((a.add (i * 2)).add 0) = some (.int .i64 (f i).1) ∧ W.cell? ((a.add (i * 2)).add 1) = some (.int .i64 (f i).2)) ∧ In64 (f i).1 ∧ In64 (f i).2 := ⟨fun i => Classical.choose (hz i), fun i => Classical.choose_spec (hz i)⟩
    have hpl : ((List.range len).map f).length = len := by simp
    have hget : ∀ i, i < len → ((List.range len).map f).getD i (0, 0) = f i := fun i hi => by simp [List.getD_eq_getElem?_getD, hi]
    refine ⟨(List.range len).map f, ⟨some a, cap, by rw [hpl], by rw [hpl]; exact hl, hm, fun h0 => ?_⟩, fun p hp => ?_⟩
    · rw [hpl] at h0
      have h1 := (hf 0 h0).1.1
      have h00 : (a.add (0 * 2)).add 0 = a.add 0 := by rw [add_add]
      rw [h00] at h1
      have hsp := spot_none h1
      refine ⟨a.block, a.off, by rw [← hsp], fun j u hu => ?_⟩
      have hj : j < (pcells ((List.range len).map f)).length := (List.getElem?_eq_some_iff.1 hu).1
      rw [pcells_length, hpl] at hj
      have hi : j / 2 < len := by omega
      obtain ⟨p1, p2⟩ := pcells_get ((List.range len).map f) (j / 2) (by rw [hpl]; exact hi)
      rw [hget _ hi] at p1 p2
      have hc := (hf _ hi).1
      rw [add_add, add_add, hsp, Addr.add_lit, Addr.add_lit] at hc
      rcases Nat.mod_two_eq_zero_or_one j with hm2 | hm2
      · have e : j = j / 2 * 2 := by omega
        rw [← e] at p1
        rw [p1] at hu
        have := hc.1
        rw [Nat.add_zero, ← e] at this
        rw [this]
        exact hu
      · have e : j = j / 2 * 2 + 1 := by omega
        rw [← e] at p2
        rw [p2] at hu
        have := hc.2
        rw [← e] at this
        rw [this]
        exact hu
    · obtain ⟨i, hi, rfl⟩ := List.mem_map.1 hp
      exact (hf i (List.mem_range.1 hi)).2
end
end Go.Proofs
