/- smith.Join. -/
import Derived.Test.YthfachbkcmifbaaGreatGrCS17
import Derived.Test.YthfachbkcmifbaaGreatGrCS19
import Derived.Deep.RegionLaw
import Derived.Deep.CutRange
import Derived.Deep.CutBlock
import Derived.Deep.Light
namespace Go.Proofs
open Go.RowKit Go.Shelf Go.Proofs.Sm
def JoinPost (r : List Int × Int) (w : World) (e : Ending) (w' : World) : Prop := (∃ v, e = .returned (.tuple #[v, .int .i64 r.2]) ∧ IntsAt w' v r.1) ∧ Below w.heap.size w w'
/-- the list of Join as it grows -/
structure JoSt (L : List Pr) (w wr : World) (k : Nat) (st : List Int × Nat) (A : Option Addr) (c : Nat) : Prop where
  jto : joinTo L k = some st
  own : OwnI w.heap.size wr (.slice A st.1.length c) st.1
  below : Below w.heap.size w wr
theorem reads_pair {w wr : World} {b o k : Nat} {x1 x2 : Int} (h : w.cell? ⟨b, o + k * 2, none⟩ = some (.int .i64 x1) ∧ w.cell? ⟨b, o + k * 2 + 1, none⟩ = some (.int .i64 x2)) (hb : Below w.heap.size w wr) : wr.cell? ⟨b, o + k * 2, none⟩ = some (.int .i64 x1) ∧ wr.cell? ⟨b, o + k * 2 + 1, none⟩ = some (.int .i64 x2) :=
  ⟨(hb.cell (p := ⟨b, o + k * 2, none⟩) (World.block_lt_of_cell? w _ h.1)).trans h.1, (hb.cell (p := ⟨b, o + k * 2 + 1, none⟩) (World.block_lt_of_cell? w _ h.2)).trans h.2⟩
theorem join_step {L : List Pr} {k a a' p n : Nat} {o o2 : List Int} (h : joinTo L k = some (o, a)) (ha : atE L k a = a') (ho : outE o a' = o2) (hp : (L.getD k (0, 0)).1 = (p : Int)) (hn : (L.getD k (0, 0)).2 = (n : Int)) :
    joinTo L (k + 1) = if o2.getD a' 0 * (powE p n : Int) < 1 ∨ 1000000000 < o2.getD a' 0 * (powE p n : Int) then none else some (o2.set a' (o2.getD a' 0 * (powE p n : Int)), a' + 1) := by
  show (joinTo L k).bind (joinS L k) = _
  rw [h]
  show joinS L k (o, a) = _
  unfold joinS
  simp only [ha, ho, hp, hn, Int.toNat_natCast]
theorem mul_bd {x y : Int} (h1 : 1 ≤ x) (h2 : x ≤ 1000000000) (h3 : 0 ≤ y) (h4 : y ≤ 1000000000) : 0 ≤ x * y ∧ x * y ≤ 1000000000000000000 := by
  have h5 : 0 ≤ x * y := Int.mul_nonneg (by omega) h3
  have h6 : x * y ≤ 1000000000 * 1000000000 := Int.mul_le_mul h2 h4 h3 (by omega)
  omega
/-- Join ahead of the multiplication -/
structure JT (w4 W : World) (X p n a : Nat) (o : List Int) (A : Option Addr) (m c : Nat) : Prop where
  own : OwnI w4.heap.size W (.slice A m c) o
  len : m = o.length
  below : Below w4.heap.size w4 W
  xb : W.heap[X]? = some (.cells #[.int .i64 (p : Int), .int .i64 (n : Int)] 38 (0, 0))
  lt : a < o.length
  bd : ∀ z ∈ o, 1 ≤ z ∧ z ≤ 1000000000
theorem JT.facts {w4 W : World} {X p n a : Nat} {o : List Int} {A : Option Addr} {m c : Nat} (h : JT w4 W X p n a o A m c) : ∃ g z, A = some ⟨g, 0, none⟩ ∧ z = o.getD a 0 ∧ 1 ≤ z ∧ z ≤ 1000000000 ∧ a < m ∧ m ≤ c ∧ c ≤ 9223372036854775807 ∧ W.cell? ⟨g, a, none⟩ = some (.int .i64 z) ∧ W.frozen? ⟨g, a, none⟩ = false ∧ W.cell? ⟨X, 0, none⟩ = some (.int .i64 (p : Int)) ∧ W.cell? ⟨X, 1, none⟩ = some (.int .i64 (n : Int)) ∧
    Hid (∀ (W' : World) (y : Int), W'.heap = W.heap → W'.os = W.os → W'.tape = W.tape → W'.output = W.output → (W'.setCell ⟨g, a, none⟩ (.int .i64 y)).cell? ⟨g, a, none⟩ = some (.int .i64 y) ∧ OwnI w4.heap.size (W'.setCell ⟨g, a, none⟩ (.int .i64 y)) (.slice A m c) (o.set a y) ∧ Below w4.heap.size w4 (W'.setCell ⟨g, a, none⟩ (.int .i64 y))) := by
  obtain ⟨h1, rfl, h3, h4, h5, h6⟩ := h
  obtain ⟨g, rfl, hX, hb, hc1, hc2⟩ := owns_xs h1 (by omega)
  obtain ⟨z1, z2⟩ := getD_bd h6 h5
  refine ⟨g, _, rfl, rfl, z1, z2, h5, hc1, hc2, hX.cell h5, hX.frozen a, by rw [cell_of_row _ _ _ _ _ _ h4]; rfl, by rw [cell_of_row _ _ _ _ _ _ h4]; rfl, Lib.hid fun W' y e1 e2 e3 e4 => ?_⟩
  have hX' : XsAt W' g o := hX.keep (by rw [e1])
  have hset := hX'.set h5 y
  refine ⟨?_, ?_, ?_⟩
  · have := hset.cell (k := a) (by rw [List.length_set]; exact h5)
    rw [this]
    simp [List.getD_eq_getElem?_getD, h5]
  · obtain ⟨hl, ho⟩ := h1
    rcases ho with ⟨e, -⟩ | ⟨g', cap, cur, e, hbb, hC, q1, q2, q3, q4⟩
    · cases e
    · injection e with e5 e6 e7
      injection e5 with e5
      injection e5 with e5
      subst e5 e7
      have hC' : W'.heap[g]? = some (.cells cur 3 (0, 0)) := by rw [e1]; exact hC
      refine ⟨by simp [ints], .inr ⟨g, c, cur.setIfInBounds a (.int .i64 y), by rw [List.length_set], hbb, by simp [World.setCell, Array.getElem?_modify, hC'], by rw [List.length_set]; exact q1, q2, by simpa using q3, ?_⟩⟩
      rw [List.length_set, Array.toList_setIfInBounds, List.take_set, q4]
      simp [ints, List.map_set]
  · exact (h3.trans ⟨e2, e3, e4, Nat.le_of_eq (by rw [e1]), fun k hk => by rw [e1]⟩).setCell (p := ⟨g, a, none⟩) hb _
set_option maxRecDepth 100000 in
set_option maxHeartbeats 4000000 in
theorem join29_any (w : World) (v : Value) (ps : List Pr) (h : PrsAt w v ps) (hf : PFits ps) : Calls Tryz.prog 9 #[v] w (JoinPost (joinE ps) w) := by
  obtain ⟨R, hR⟩ : ∃ R, R = joinE ps := ⟨_, rfl⟩
  rw [← hR]
  have HR := Lib.hid hR
  have HP := Lib.hid h
  have HF := Lib.hid hf
  obtain ⟨A0, c0, rfl, hc1, hc2, -⟩ := h
  clear hR hf
  obtain ⟨N, hN⟩ : ∃ N, N = ps.length := ⟨_, rfl⟩
  rw [← hN] at hc1 HP ⊢
  have HN := Lib.hid hN
  clear hN
  by_cases hlong : 1000 < N
  · have HE : Hid (R = ([], 4)) := Lib.hid (by rw [HR.out]; unfold joinE; rw [if_pos (by rw [← HN.out]; exact hlong)])
    have hd : (1000 : Int) < (N : Int) := by omega
    clear HR HP HF
    go_enter Tryz.func9, Tryz.ntmps9
    go_wp2_with fail
    go_ret2
    rw [HE.out]
    exact ⟨⟨_, rfl, intsAt_nil⟩, Below.refl _ _⟩
  · have hd : ¬ (1000 : Int) < (N : Int) := by omega
    have hNb : (N : Int) ≤ 1000 := by omega
    have hcon := contains48_any w (.slice A0 N c0) ps HP.out HF.out
    cases hany : ps.any badJ with
    | true =>
      rw [hany] at hcon
      have HCON := Lib.hid hcon
      have HE : Hid (R = ([], 3)) := Lib.hid (by rw [HR.out]; unfold joinE; rw [if_neg (by rw [← HN.out]; exact hlong), if_pos hany])
      clear hcon hany HR HP HF
      go_enter Tryz.func9, Tryz.ntmps9
      go_wp2_with (go_at_call 26; (refine HCON.out.mono ?_); rintro e w1 ⟨rfl, hb⟩; have HB := Lib.hid hb; clear hb)
      go_ret2
      rw [HE.out]
      exact ⟨⟨_, rfl, intsAt_nil⟩, HB.out⟩
    | false =>
      rw [hany] at hcon
      have HCON := Lib.hid hcon
      have HE : Hid (R = joinOf (sortD ps) N) := Lib.hid (by rw [HR.out]; unfold joinE; rw [if_neg (by rw [← HN.out]; exact hlong), if_neg (by rw [hany]; decide), HN.out])
      have HCL : Hid (∀ W, Below w.heap.size w W → Calls Tryz.prog 29 #[.slice A0 N c0] W fun e w' => ∃ A c, e = .returned (.slice A N c) ∧ OwnP W.heap.size w' (.slice A N c) ps ∧ Below W.heap.size W w') := Lib.hid fun W hW => (clone51_any W _ ps (HP.out.below hW) (by rw [← HN.out]; omega)).mono fun e w' ⟨A, c, h1, h2, h3⟩ => ⟨A, c, by rw [h1, HN.out], by rw [HN.out]; exact h2, h3⟩
      have HGOOD : Hid (∀ k, k < N → ∃ p n : Nat, ((sortD ps).getD k (0, 0)).1 = (p : Int) ∧ ((sortD ps).getD k (0, 0)).2 = (n : Int) ∧ 1 ≤ p ∧ p ≤ 1000000 ∧ 1 ≤ n ∧ n ≤ 9223372036854775807) := Lib.hid fun k hk => by
        have hmem : (sortD ps).getD k (0, 0) ∈ ps := (sortP_perm ps).mem_iff.1 (List.mem_reverse.1 (getD_memP (ps := sortD ps) (by unfold sortD; rw [List.length_reverse, sortP_length, ← HN.out]; exact hk)))
        have hb := List.any_eq_false.1 hany _ hmem
        have hf := HF.out _ hmem
        generalize (sortD ps).getD k (0, 0) = x at *
        unfold badJ at hb
        simp at hb
        obtain ⟨hb1, hb2⟩ := hb
        rw [isE_iff] at hb1
        have hf2 := hf.2.2
        exact ⟨x.1.toNat, x.2.toNat, by omega, by omega, by omega, by omega, by omega, by omega⟩
      clear hcon hany HR HP HF
      go_enter Tryz.func9, Tryz.ntmps9
      go_wp2_with (first
        | (go_at_call 26; (refine HCON.out.mono ?_); rintro e w1 ⟨rfl, hb⟩; have HB1 := Lib.hid hb; clear hb)
        | (go_at_call 29; (refine (HCL.out _ HB1.out).mono ?_); rintro e w2 ⟨A, c, rfl, ho, hb⟩; have HB2 := Lib.hid (HB1.out.trans (hb.mono HB1.out.size)); have HS := Lib.hid (sort46_any w1.heap.size w2 _ ps ho (by rw [← HN.out]; omega)); clear ho hb)
        | (go_at_call 22; (refine HS.out.mono ?_); rintro e w3 ⟨rfl, ho, hb⟩; have HB3 := Lib.hid (HB2.out.trans (hb.mono HB1.out.size)); have HRV := Lib.hid (reverse52_any w1.heap.size w3 _ (sortP ps) ho (by rw [sortP_length, ← HN.out]; omega)); clear ho hb)
        | (go_at_call 30; (refine HRV.out.mono ?_); rintro e w4 ⟨rfl, ho, hb⟩; have HB4 := Lib.hid (HB3.out.trans (hb.mono HB1.out.size)); have hpr := OwnP.prs ho; clear ho hb))
      have HL : Hid ((sortP ps).reverse = sortD ps) := Lib.hid rfl
      rw [HL.out] at hpr
      have HLEN : Hid ((sortD ps).length = N) := Lib.hid (by unfold sortD; rw [List.length_reverse, sortP_length, ← HN.out])
      clear HS HRV HCON HCL HB1 HB2 HB3 HL
      have HE2 := Lib.hid HE.out
      clear HE HN
      generalize sortD ps = L at *
      obtain ⟨A2, c2, e2, f1, f2, hpc⟩ := hpr.at_
      rw [HLEN.out] at e2 f1 hpc
      injection e2 with e2 e3 e4
      subst e2 e4
      clear e3
      have HPC := Lib.hid hpc
      clear hpr hpc
      go_loopw [5, 6, 22] (fun zo za zi wr => ∃ (k : Nat) (st : List Int × Nat) (Ao : Option Addr) (co : Nat), k ≤ N ∧ zi = .int .i64 k ∧ za = .int .i64 (st.2 : Int) ∧ zo = .slice Ao st.1.length co ∧ Hid (JoSt L w4 wr k st Ao co)) (fun _ _ zi _ => N - (intOf zi).toNat)
      case atStart => exact ⟨0, ([], 0), none, 0, by omega, rfl, rfl, rfl, Lib.hid ⟨rfl, World.ownsRow_nil _ _ _ _, Below.refl _ _⟩⟩
      case round =>
        obtain ⟨k, ⟨o, a⟩, Ao, co, hk, rfl, rfl, rfl, HI⟩ := hrel
        have hk0 : (0 : Int) ≤ (k : Int) := Int.natCast_nonneg _
        by_cases hkl : k < N
        · have hkl' : (k : Int) < (N : Int) := by omega
          obtain ⟨bl, ol, rfl, hcc⟩ := HPC.out (by omega)
          obtain ⟨p, n, hp, hn, hp1, hp2, hn1, hn2⟩ := HGOOD.out k hkl
          obtain ⟨y1, y2⟩ := reads_pair (hcc k hkl) HI.out.below
          rw [hp] at y1
          rw [hn] at y2
          have hJ := joinTo_ok HI.out.jto
          simp only
          go_wp2_with fail
          have hxb := heap_alloc_new wr (.cells #[.int .i64 (p : Int), .int .i64 (n : Int)] 38)
          have hbn : Below wr.heap.size wr (wr.alloc (.cells #[.int .i64 (p : Int), .int .i64 (n : Int)] 38)) := (Below.refl _ _).alloc (Nat.le_refl _) _
          have HW : Hid (Below w4.heap.size w4 (wr.alloc (.cells #[.int .i64 (p : Int), .int .i64 (n : Int)] 38)) ∧ OwnI w4.heap.size (wr.alloc (.cells #[.int .i64 (p : Int), .int .i64 (n : Int)] 38)) (.slice Ao o.length co) o ∧ (wr.alloc (.cells #[.int .i64 (p : Int), .int .i64 (n : Int)] 38)).heap[wr.heap.size]? = some (.cells #[.int .i64 (p : Int), .int .i64 (n : Int)] 38 (0, 0))) := Lib.hid ⟨HI.out.below.trans (hbn.mono HI.out.below.size), owns_below HI.out.own hbn, hxb⟩
          have HTO := Lib.hid HI.out.jto
          have hx0 : (wr.alloc (.cells #[.int .i64 (p : Int), .int .i64 (n : Int)] 38)).cell? ⟨wr.heap.size, 0, none⟩ = some (.int .i64 (p : Int)) := by rw [cell_of_row _ _ _ _ _ _ hxb]; rfl
          clear hxb hbn y1 y2 HI
          generalize wr.alloc (.cells #[.int .i64 (p : Int), .int .i64 (n : Int)] 38) = W1 at *
          generalize wr.heap.size = X at *
          have HJ := Lib.hid hJ
          have HPN := Lib.hid (And.intro hp hn)
          have HNN := Lib.hid hn1
          clear hJ hp hn hn1
          rcases Nat.eq_zero_or_pos k with h0 | h0
          · subst h0
            have HA : Hid (atE L 0 a = a) := Lib.hid (by unfold atE; rw [if_neg (by omega)])
            clear hcc
            have HLE : Hid (a ≤ o.length) := Lib.hid (by have := atE_le (L := L) HJ.out; rw [HA.out] at this; exact this)
            by_cases hae : a = o.length
            · have hde : ((a : Int) == (o.length : Int)) = true := by simp; omega
              have HST : Hid (joinTo L (0 + 1) = if (o ++ [1]).getD a 0 * (powE p n : Int) < 1 ∨ 1000000000 < (o ++ [1]).getD a 0 * (powE p n : Int) then none else some ((o ++ [1]).set a ((o ++ [1]).getD a 0 * (powE p n : Int)), a + 1)) := Lib.hid (join_step HTO.out HA.out (by unfold outE; rw [if_pos hae]) HPN.out.1 HPN.out.2)
              have HPUSH : Hid (∀ q, ∃ A2 c2 w8, (Builtin.append_ #[25, 25] 25 #[.slice Ao o.length co, .slice (some ⟨(W1.drewN q).heap.size, 0, none⟩) 1 1]).run Tryz.prog ((W1.drewN q).alloc (.cells #[.int .i64 1] 3)) = .ok (.slice A2 (o.length + 1) c2) w8 ∧ JT w4 w8 X p n a (o ++ [1]) A2 (o.length + 1) c2) := Lib.hid fun q => by
                have holen := HJ.out.len
                obtain ⟨A2, c2, w8, hr8, ho8, hg8, -⟩ := push_int 25 25 Tryz.underlying25 (W1.drewN q) w4.heap.size (.slice Ao o.length co) o (owns_keep HW.out.2.1 fun _ _ => rfl) 1 (by simp only at holen; omega) HW.out.1.size
                exact ⟨A2, c2, w8, hr8, ⟨ho8, by simp, (below_drewN HW.out.1 q).grown hg8 HW.out.1.size (fun r hr => (owns_block HW.out.2.1 r hr).1), (hg8.block X (Array.getElem?_eq_some_iff.1 HW.out.2.2).1 (fun e => by obtain ⟨-, C, hC⟩ := owns_block HW.out.2.1 X e.symm; rw [HW.out.2.2] at hC; injection hC with h5; injection h5 with _ h6 _; exact absurd h6 (by decide))).trans HW.out.2.2, by simp <;> omega, fun z hz => by
                  rcases List.mem_append.1 hz with hz | hz
                  · exact HJ.out.bd z hz
                  · rw [List.mem_singleton] at hz; omega⟩⟩
              clear hae
              generalize o.length = ol0 at *
              go_quiet (fail)
              obtain ⟨A2, c2, w8, hr8, hT8⟩ := HPUSH.out nq
              have HR8 := Lib.hid hr8
              have HT := Lib.hid hT8
              clear hr8 hT8 HPUSH
              go_wp2_with ((with_reducible refine wpList_sel 46 ?_); refine wpList_val rfl (r_app (.tmp 44) (.tmp 45) 25 rfl rfl rfl HR8.out) ?_)
              generalize ol0 + 1 = m at *
              generalize o ++ [1] = o2 at *
              obtain ⟨g, z, rfl, hzz, hz1, hz2, ham, hmc1, hmc2, hzc, hzf, hx0, hx1, HAFT⟩ := HT.out.facts
              have hstep := HST.out
              rw [← hzz] at hstep
              have hpw := powE_le p n
              have he1 : ((powE p n : Nat) : Int) ≤ 1000000000 := by omega
              have he0 : (0 : Int) ≤ ((powE p n : Nat) : Int) := Int.natCast_nonneg _
              have HPW := Lib.hid fun W => power53_any W p n hp1 hp2 hn2
              have HMLEN := Lib.hid HT.out.len
              clear hpw hzz HST HT
              generalize ((powE p n : Nat) : Int) = e at *
              obtain ⟨hy1, hy2⟩ := mul_bd hz1 hz2 he0 he1
              obtain ⟨y, hy⟩ : ∃ y, y = z * e := ⟨_, rfl⟩
              rw [← hy] at hy1 hy2 hstep
              have hwz : IntKind.i64.wrap (z * e) = y := by rw [← hy]; exact IntWalk.i64_in _ (by omega)
              have HSTEP := Lib.hid hstep
              have hami : ((a : Int) : Int) < (m : Int) := by omega
              clear hstep hy
              go_wp2_with fail
              go_cut [22] from 22 to 72 (fun z22 wx => z22 = .int .i64 ((0 : Nat) : Int) ∧ Hid (wx.cell? ⟨g, a, none⟩ = some (.int .i64 y) ∧ OwnI w4.heap.size wx (.slice (some ⟨g, 0, none⟩) m c2) (o2.set a y) ∧ Below w4.heap.size w4 wx))
              case first =>
                go_region_law (first
                  | (go_simp
                     go_at_call 31
                     (with_reducible refine (HPW.out _).mono ?_)
                     rintro e w' ⟨rfl, q, rfl⟩))
                all_goals
                  go_wp2_with fail
                  go_meet
                  exact ⟨rfl, Lib.hid (HAFT.out _ _ rfl rfl rfl rfl)⟩
              case rest =>
                obtain ⟨rfl, hcut2⟩ := hcut
                have hyc := hcut2.out.1
                clear hzc hzf hx0 hx1 HAFT HPW
                by_cases hb1 : y < 1
                · have HE5 : Hid (R = ([], 5)) := Lib.hid (by
                    have h := HSTEP.out
                    rw [if_pos (.inl hb1)] at h
                    have h2 := joinTo_none h (N - (0 + 1))
                    rw [show 0 + 1 + (N - (0 + 1)) = N by omega] at h2
                    rw [HE2.out, joinOf_none h2])
                  go_wp2_with fail
                  go_ret2
                  rw [HE5.out]
                  exact ⟨⟨_, rfl, intsAt_nil⟩, HB4.out.trans (hcut2.out.2.2.mono HB4.out.size)⟩
                · by_cases hb2 : 1000000000 < y
                  · have HE5 : Hid (R = ([], 5)) := Lib.hid (by
                      have h := HSTEP.out
                      rw [if_pos (.inr hb2)] at h
                      have h2 := joinTo_none h (N - (0 + 1))
                      rw [show 0 + 1 + (N - (0 + 1)) = N by omega] at h2
                      rw [HE2.out, joinOf_none h2])
                    go_wp2_with fail
                    go_ret2
                    rw [HE5.out]
                    exact ⟨⟨_, rfl, intsAt_nil⟩, HB4.out.trans (hcut2.out.2.2.mono HB4.out.size)⟩
                  · have HS2 : Hid (joinTo L (0 + 1) = some (o2.set a y, a + 1)) := Lib.hid (by rw [HSTEP.out, if_neg (by omega)])
                    have HML2 : Hid (m = (o2.set a y).length) := Lib.hid (by rw [List.length_set]; exact HMLEN.out)
                    go_wp2_with fail
                    go_roundw
                    case rel => exact ⟨0 + 1, (o2.set a y, a + 1), some ⟨g, 0, none⟩, c2, by omega, by go_num, by go_num, by rw [← HML2.out], Lib.hid ⟨HS2.out, by rw [← HML2.out]; exact hcut2.out.2.1, hcut2.out.2.2⟩⟩
                    case measure => simp [intOf]; omega
            · have hde : ((a : Int) == (o.length : Int)) = false := by simp; omega
              have HST : Hid (joinTo L (0 + 1) = if o.getD a 0 * (powE p n : Int) < 1 ∨ 1000000000 < o.getD a 0 * (powE p n : Int) then none else some (o.set a (o.getD a 0 * (powE p n : Int)), a + 1)) := Lib.hid (join_step HTO.out HA.out (by unfold outE; rw [if_neg hae]) HPN.out.1 HPN.out.2)
              have HTQ : Hid (∀ q, JT w4 (W1.drewN q) X p n a o Ao o.length co) := Lib.hid fun q => ⟨owns_keep HW.out.2.1 fun _ _ => rfl, rfl, below_drewN HW.out.1 q, HW.out.2.2, by have := HLE.out; omega, HJ.out.bd⟩
              clear hae
              go_quiet (fail)
              have HT := Lib.hid (HTQ.out nq)
              clear HTQ
              generalize W1.drewN nq = W5 at *
              go_wp2_with fail
              generalize hml : o.length = m at *
              have HML := Lib.hid hml
              clear hml
              obtain ⟨o2, ho2⟩ : ∃ o2, o2 = o := ⟨_, rfl⟩
              rw [← ho2] at HT HST HML
              clear ho2
              obtain ⟨A2, hA2⟩ : ∃ A2, A2 = Ao := ⟨_, rfl⟩
              rw [← hA2] at HT ⊢
              clear hA2
              obtain ⟨c2, hc2'⟩ : ∃ c2, c2 = co := ⟨_, rfl⟩
              rw [← hc2'] at HT ⊢
              clear hc2'
              obtain ⟨g, z, rfl, hzz, hz1, hz2, ham, hmc1, hmc2, hzc, hzf, hx0, hx1, HAFT⟩ := HT.out.facts
              have hstep := HST.out
              rw [← hzz] at hstep
              have hpw := powE_le p n
              have he1 : ((powE p n : Nat) : Int) ≤ 1000000000 := by omega
              have he0 : (0 : Int) ≤ ((powE p n : Nat) : Int) := Int.natCast_nonneg _
              have HPW := Lib.hid fun W => power53_any W p n hp1 hp2 hn2
              have HMLEN := Lib.hid HT.out.len
              clear hpw hzz HST HT
              generalize ((powE p n : Nat) : Int) = e at *
              obtain ⟨hy1, hy2⟩ := mul_bd hz1 hz2 he0 he1
              obtain ⟨y, hy⟩ : ∃ y, y = z * e := ⟨_, rfl⟩
              rw [← hy] at hy1 hy2 hstep
              have hwz : IntKind.i64.wrap (z * e) = y := by rw [← hy]; exact IntWalk.i64_in _ (by omega)
              have HSTEP := Lib.hid hstep
              have hami : ((a : Int) : Int) < (m : Int) := by omega
              clear hstep hy
              go_wp2_with fail
              go_cut [22] from 22 to 72 (fun z22 wx => z22 = .int .i64 ((0 : Nat) : Int) ∧ Hid (wx.cell? ⟨g, a, none⟩ = some (.int .i64 y) ∧ OwnI w4.heap.size wx (.slice (some ⟨g, 0, none⟩) m c2) (o2.set a y) ∧ Below w4.heap.size w4 wx))
              case first =>
                go_region_law (first
                  | (go_simp
                     go_at_call 31
                     (with_reducible refine (HPW.out _).mono ?_)
                     rintro e w' ⟨rfl, q, rfl⟩))
                all_goals
                  go_wp2_with fail
                  go_meet
                  exact ⟨rfl, Lib.hid (HAFT.out _ _ rfl rfl rfl rfl)⟩
              case rest =>
                obtain ⟨rfl, hcut2⟩ := hcut
                have hyc := hcut2.out.1
                clear hzc hzf hx0 hx1 HAFT HPW
                by_cases hb1 : y < 1
                · have HE5 : Hid (R = ([], 5)) := Lib.hid (by
                    have h := HSTEP.out
                    rw [if_pos (.inl hb1)] at h
                    have h2 := joinTo_none h (N - (0 + 1))
                    rw [show 0 + 1 + (N - (0 + 1)) = N by omega] at h2
                    rw [HE2.out, joinOf_none h2])
                  go_wp2_with fail
                  go_ret2
                  rw [HE5.out]
                  exact ⟨⟨_, rfl, intsAt_nil⟩, HB4.out.trans (hcut2.out.2.2.mono HB4.out.size)⟩
                · by_cases hb2 : 1000000000 < y
                  · have HE5 : Hid (R = ([], 5)) := Lib.hid (by
                      have h := HSTEP.out
                      rw [if_pos (.inr hb2)] at h
                      have h2 := joinTo_none h (N - (0 + 1))
                      rw [show 0 + 1 + (N - (0 + 1)) = N by omega] at h2
                      rw [HE2.out, joinOf_none h2])
                    go_wp2_with fail
                    go_ret2
                    rw [HE5.out]
                    exact ⟨⟨_, rfl, intsAt_nil⟩, HB4.out.trans (hcut2.out.2.2.mono HB4.out.size)⟩
                  · have HS2 : Hid (joinTo L (0 + 1) = some (o2.set a y, a + 1)) := Lib.hid (by rw [HSTEP.out, if_neg (by omega)])
                    have HML2 : Hid (m = (o2.set a y).length) := Lib.hid (by rw [List.length_set]; exact HMLEN.out)
                    go_wp2_with fail
                    go_roundw
                    case rel => exact ⟨0 + 1, (o2.set a y, a + 1), some ⟨g, 0, none⟩, c2, by omega, by go_num, by go_num, by rw [← HML2.out], Lib.hid ⟨HS2.out, by rw [← HML2.out]; exact hcut2.out.2.1, hcut2.out.2.2⟩⟩
                    case measure => simp [intOf]; omega
          · obtain ⟨j, rfl⟩ : ∃ j, k = j + 1 := ⟨k - 1, by omega⟩
            obtain ⟨v1, v2⟩ := reads_pair (hcc j (by omega)) HW.out.1
            clear hcc v2
            obtain ⟨p', hp'⟩ : ∃ p' : Int, p' = (L.getD j (0, 0)).1 := ⟨_, rfl⟩
            rw [← hp'] at v1
            have HQ := Lib.hid hp'
            clear hp'
            by_cases hpp : (p : Int) = p'
            · have hdd : ((p : Int) != p') = false := by simpa using hpp
              have HA : Hid (atE L (j + 1) a = a) := Lib.hid (by unfold atE; rw [if_neg]; rintro ⟨-, h⟩; exact h (by rw [HPN.out.1, hpp, HQ.out]; try rfl))
              clear hpp
              have HLE : Hid (a ≤ o.length) := Lib.hid (by have := atE_le (L := L) HJ.out; rw [HA.out] at this; exact this)
              by_cases hae : a = o.length
              · have hde : ((a : Int) == (o.length : Int)) = true := by simp; omega
                have HST : Hid (joinTo L ((j + 1) + 1) = if (o ++ [1]).getD a 0 * (powE p n : Int) < 1 ∨ 1000000000 < (o ++ [1]).getD a 0 * (powE p n : Int) then none else some ((o ++ [1]).set a ((o ++ [1]).getD a 0 * (powE p n : Int)), a + 1)) := Lib.hid (join_step HTO.out HA.out (by unfold outE; rw [if_pos hae]) HPN.out.1 HPN.out.2)
                have HPUSH : Hid (∀ q, ∃ A2 c2 w8, (Builtin.append_ #[25, 25] 25 #[.slice Ao o.length co, .slice (some ⟨(W1.drewN q).heap.size, 0, none⟩) 1 1]).run Tryz.prog ((W1.drewN q).alloc (.cells #[.int .i64 1] 3)) = .ok (.slice A2 (o.length + 1) c2) w8 ∧ JT w4 w8 X p n a (o ++ [1]) A2 (o.length + 1) c2) := Lib.hid fun q => by
                  have holen := HJ.out.len
                  obtain ⟨A2, c2, w8, hr8, ho8, hg8, -⟩ := push_int 25 25 Tryz.underlying25 (W1.drewN q) w4.heap.size (.slice Ao o.length co) o (owns_keep HW.out.2.1 fun _ _ => rfl) 1 (by simp only at holen; omega) HW.out.1.size
                  exact ⟨A2, c2, w8, hr8, ⟨ho8, by simp, (below_drewN HW.out.1 q).grown hg8 HW.out.1.size (fun r hr => (owns_block HW.out.2.1 r hr).1), (hg8.block X (Array.getElem?_eq_some_iff.1 HW.out.2.2).1 (fun e => by obtain ⟨-, C, hC⟩ := owns_block HW.out.2.1 X e.symm; rw [HW.out.2.2] at hC; injection hC with h5; injection h5 with _ h6 _; exact absurd h6 (by decide))).trans HW.out.2.2, by simp <;> omega, fun z hz => by
                    rcases List.mem_append.1 hz with hz | hz
                    · exact HJ.out.bd z hz
                    · rw [List.mem_singleton] at hz; omega⟩⟩
                clear hae
                generalize o.length = ol0 at *
                go_quiet (fail)
                obtain ⟨A2, c2, w8, hr8, hT8⟩ := HPUSH.out nq
                have HR8 := Lib.hid hr8
                have HT := Lib.hid hT8
                clear hr8 hT8 HPUSH
                go_wp2_with ((with_reducible refine wpList_sel 46 ?_); refine wpList_val rfl (r_app (.tmp 44) (.tmp 45) 25 rfl rfl rfl HR8.out) ?_)
                generalize ol0 + 1 = m at *
                generalize o ++ [1] = o2 at *
                obtain ⟨g, z, rfl, hzz, hz1, hz2, ham, hmc1, hmc2, hzc, hzf, hx0, hx1, HAFT⟩ := HT.out.facts
                have hstep := HST.out
                rw [← hzz] at hstep
                have hpw := powE_le p n
                have he1 : ((powE p n : Nat) : Int) ≤ 1000000000 := by omega
                have he0 : (0 : Int) ≤ ((powE p n : Nat) : Int) := Int.natCast_nonneg _
                have HPW := Lib.hid fun W => power53_any W p n hp1 hp2 hn2
                have HMLEN := Lib.hid HT.out.len
                clear hpw hzz HST HT
                generalize ((powE p n : Nat) : Int) = e at *
                obtain ⟨hy1, hy2⟩ := mul_bd hz1 hz2 he0 he1
                obtain ⟨y, hy⟩ : ∃ y, y = z * e := ⟨_, rfl⟩
                rw [← hy] at hy1 hy2 hstep
                have hwz : IntKind.i64.wrap (z * e) = y := by rw [← hy]; exact IntWalk.i64_in _ (by omega)
                have HSTEP := Lib.hid hstep
                have hami : ((a : Int) : Int) < (m : Int) := by omega
                clear hstep hy
                go_wp2_with fail
                go_cut [22] from 22 to 72 (fun z22 wx => z22 = .int .i64 (((j + 1) : Nat) : Int) ∧ Hid (wx.cell? ⟨g, a, none⟩ = some (.int .i64 y) ∧ OwnI w4.heap.size wx (.slice (some ⟨g, 0, none⟩) m c2) (o2.set a y) ∧ Below w4.heap.size w4 wx))
                case first =>
                  go_region_law (first
                    | (go_simp
                       go_at_call 31
                       (with_reducible refine (HPW.out _).mono ?_)
                       rintro e w' ⟨rfl, q, rfl⟩))
                  all_goals
                    go_wp2_with fail
                    go_meet
                    exact ⟨rfl, Lib.hid (HAFT.out _ _ rfl rfl rfl rfl)⟩
                case rest =>
                  obtain ⟨rfl, hcut2⟩ := hcut
                  have hyc := hcut2.out.1
                  clear hzc hzf hx0 hx1 HAFT HPW
                  by_cases hb1 : y < 1
                  · have HE5 : Hid (R = ([], 5)) := Lib.hid (by
                      have h := HSTEP.out
                      rw [if_pos (.inl hb1)] at h
                      have h2 := joinTo_none h (N - ((j + 1) + 1))
                      rw [show (j + 1) + 1 + (N - ((j + 1) + 1)) = N by omega] at h2
                      rw [HE2.out, joinOf_none h2])
                    go_wp2_with fail
                    go_ret2
                    rw [HE5.out]
                    exact ⟨⟨_, rfl, intsAt_nil⟩, HB4.out.trans (hcut2.out.2.2.mono HB4.out.size)⟩
                  · by_cases hb2 : 1000000000 < y
                    · have HE5 : Hid (R = ([], 5)) := Lib.hid (by
                        have h := HSTEP.out
                        rw [if_pos (.inr hb2)] at h
                        have h2 := joinTo_none h (N - ((j + 1) + 1))
                        rw [show (j + 1) + 1 + (N - ((j + 1) + 1)) = N by omega] at h2
                        rw [HE2.out, joinOf_none h2])
                      go_wp2_with fail
                      go_ret2
                      rw [HE5.out]
                      exact ⟨⟨_, rfl, intsAt_nil⟩, HB4.out.trans (hcut2.out.2.2.mono HB4.out.size)⟩
                    · have HS2 : Hid (joinTo L ((j + 1) + 1) = some (o2.set a y, a + 1)) := Lib.hid (by rw [HSTEP.out, if_neg (by omega)])
                      have HML2 : Hid (m = (o2.set a y).length) := Lib.hid (by rw [List.length_set]; exact HMLEN.out)
                      go_wp2_with fail
                      go_roundw
                      case rel => exact ⟨(j + 1) + 1, (o2.set a y, a + 1), some ⟨g, 0, none⟩, c2, by omega, by go_num, by go_num, by rw [← HML2.out], Lib.hid ⟨HS2.out, by rw [← HML2.out]; exact hcut2.out.2.1, hcut2.out.2.2⟩⟩
                      case measure => simp [intOf]; omega
              · have hde : ((a : Int) == (o.length : Int)) = false := by simp; omega
                have HST : Hid (joinTo L ((j + 1) + 1) = if o.getD a 0 * (powE p n : Int) < 1 ∨ 1000000000 < o.getD a 0 * (powE p n : Int) then none else some (o.set a (o.getD a 0 * (powE p n : Int)), a + 1)) := Lib.hid (join_step HTO.out HA.out (by unfold outE; rw [if_neg hae]) HPN.out.1 HPN.out.2)
                have HTQ : Hid (∀ q, JT w4 (W1.drewN q) X p n a o Ao o.length co) := Lib.hid fun q => ⟨owns_keep HW.out.2.1 fun _ _ => rfl, rfl, below_drewN HW.out.1 q, HW.out.2.2, by have := HLE.out; omega, HJ.out.bd⟩
                clear hae
                go_quiet (fail)
                have HT := Lib.hid (HTQ.out nq)
                clear HTQ
                generalize W1.drewN nq = W5 at *
                go_wp2_with fail
                generalize hml : o.length = m at *
                have HML := Lib.hid hml
                clear hml
                obtain ⟨o2, ho2⟩ : ∃ o2, o2 = o := ⟨_, rfl⟩
                rw [← ho2] at HT HST HML
                clear ho2
                obtain ⟨A2, hA2⟩ : ∃ A2, A2 = Ao := ⟨_, rfl⟩
                rw [← hA2] at HT ⊢
                clear hA2
                obtain ⟨c2, hc2'⟩ : ∃ c2, c2 = co := ⟨_, rfl⟩
                rw [← hc2'] at HT ⊢
                clear hc2'
                obtain ⟨g, z, rfl, hzz, hz1, hz2, ham, hmc1, hmc2, hzc, hzf, hx0, hx1, HAFT⟩ := HT.out.facts
                have hstep := HST.out
                rw [← hzz] at hstep
                have hpw := powE_le p n
                have he1 : ((powE p n : Nat) : Int) ≤ 1000000000 := by omega
                have he0 : (0 : Int) ≤ ((powE p n : Nat) : Int) := Int.natCast_nonneg _
                have HPW := Lib.hid fun W => power53_any W p n hp1 hp2 hn2
                have HMLEN := Lib.hid HT.out.len
                clear hpw hzz HST HT
                generalize ((powE p n : Nat) : Int) = e at *
                obtain ⟨hy1, hy2⟩ := mul_bd hz1 hz2 he0 he1
                obtain ⟨y, hy⟩ : ∃ y, y = z * e := ⟨_, rfl⟩
                rw [← hy] at hy1 hy2 hstep
                have hwz : IntKind.i64.wrap (z * e) = y := by rw [← hy]; exact IntWalk.i64_in _ (by omega)
                have HSTEP := Lib.hid hstep
                have hami : ((a : Int) : Int) < (m : Int) := by omega
                clear hstep hy
                go_wp2_with fail
                go_cut [22] from 22 to 72 (fun z22 wx => z22 = .int .i64 (((j + 1) : Nat) : Int) ∧ Hid (wx.cell? ⟨g, a, none⟩ = some (.int .i64 y) ∧ OwnI w4.heap.size wx (.slice (some ⟨g, 0, none⟩) m c2) (o2.set a y) ∧ Below w4.heap.size w4 wx))
                case first =>
                  go_region_law (first
                    | (go_simp
                       go_at_call 31
                       (with_reducible refine (HPW.out _).mono ?_)
                       rintro e w' ⟨rfl, q, rfl⟩))
                  all_goals
                    go_wp2_with fail
                    go_meet
                    exact ⟨rfl, Lib.hid (HAFT.out _ _ rfl rfl rfl rfl)⟩
                case rest =>
                  obtain ⟨rfl, hcut2⟩ := hcut
                  have hyc := hcut2.out.1
                  clear hzc hzf hx0 hx1 HAFT HPW
                  by_cases hb1 : y < 1
                  · have HE5 : Hid (R = ([], 5)) := Lib.hid (by
                      have h := HSTEP.out
                      rw [if_pos (.inl hb1)] at h
                      have h2 := joinTo_none h (N - ((j + 1) + 1))
                      rw [show (j + 1) + 1 + (N - ((j + 1) + 1)) = N by omega] at h2
                      rw [HE2.out, joinOf_none h2])
                    go_wp2_with fail
                    go_ret2
                    rw [HE5.out]
                    exact ⟨⟨_, rfl, intsAt_nil⟩, HB4.out.trans (hcut2.out.2.2.mono HB4.out.size)⟩
                  · by_cases hb2 : 1000000000 < y
                    · have HE5 : Hid (R = ([], 5)) := Lib.hid (by
                        have h := HSTEP.out
                        rw [if_pos (.inr hb2)] at h
                        have h2 := joinTo_none h (N - ((j + 1) + 1))
                        rw [show (j + 1) + 1 + (N - ((j + 1) + 1)) = N by omega] at h2
                        rw [HE2.out, joinOf_none h2])
                      go_wp2_with fail
                      go_ret2
                      rw [HE5.out]
                      exact ⟨⟨_, rfl, intsAt_nil⟩, HB4.out.trans (hcut2.out.2.2.mono HB4.out.size)⟩
                    · have HS2 : Hid (joinTo L ((j + 1) + 1) = some (o2.set a y, a + 1)) := Lib.hid (by rw [HSTEP.out, if_neg (by omega)])
                      have HML2 : Hid (m = (o2.set a y).length) := Lib.hid (by rw [List.length_set]; exact HMLEN.out)
                      go_wp2_with fail
                      go_roundw
                      case rel => exact ⟨(j + 1) + 1, (o2.set a y, a + 1), some ⟨g, 0, none⟩, c2, by omega, by go_num, by go_num, by rw [← HML2.out], Lib.hid ⟨HS2.out, by rw [← HML2.out]; exact hcut2.out.2.1, hcut2.out.2.2⟩⟩
                      case measure => simp [intOf]; omega
            · have hdd : ((p : Int) != p') = true := by simpa using hpp
              have HA : Hid (atE L (j + 1) a = 0) := Lib.hid (by unfold atE; rw [if_pos]; exact ⟨by omega, fun h => hpp (by rw [← HPN.out.1, h, HQ.out]; try rfl)⟩)
              clear hpp
              have HLE : Hid (0 ≤ o.length) := Lib.hid (by have := atE_le (L := L) HJ.out; rw [HA.out] at this; exact this)
              by_cases hae : 0 = o.length
              · have hde : ((0 : Int) == (o.length : Int)) = true := by simp; omega
                have HST : Hid (joinTo L ((j + 1) + 1) = if (o ++ [1]).getD 0 0 * (powE p n : Int) < 1 ∨ 1000000000 < (o ++ [1]).getD 0 0 * (powE p n : Int) then none else some ((o ++ [1]).set 0 ((o ++ [1]).getD 0 0 * (powE p n : Int)), 0 + 1)) := Lib.hid (join_step HTO.out HA.out (by unfold outE; rw [if_pos hae]) HPN.out.1 HPN.out.2)
                have HPUSH : Hid (∀ q, ∃ A2 c2 w8, (Builtin.append_ #[25, 25] 25 #[.slice Ao o.length co, .slice (some ⟨(W1.drewN q).heap.size, 0, none⟩) 1 1]).run Tryz.prog ((W1.drewN q).alloc (.cells #[.int .i64 1] 3)) = .ok (.slice A2 (o.length + 1) c2) w8 ∧ JT w4 w8 X p n 0 (o ++ [1]) A2 (o.length + 1) c2) := Lib.hid fun q => by
                  have holen := HJ.out.len
                  obtain ⟨A2, c2, w8, hr8, ho8, hg8, -⟩ := push_int 25 25 Tryz.underlying25 (W1.drewN q) w4.heap.size (.slice Ao o.length co) o (owns_keep HW.out.2.1 fun _ _ => rfl) 1 (by simp only at holen; omega) HW.out.1.size
                  exact ⟨A2, c2, w8, hr8, ⟨ho8, by simp, (below_drewN HW.out.1 q).grown hg8 HW.out.1.size (fun r hr => (owns_block HW.out.2.1 r hr).1), (hg8.block X (Array.getElem?_eq_some_iff.1 HW.out.2.2).1 (fun e => by obtain ⟨-, C, hC⟩ := owns_block HW.out.2.1 X e.symm; rw [HW.out.2.2] at hC; injection hC with h5; injection h5 with _ h6 _; exact absurd h6 (by decide))).trans HW.out.2.2, by simp <;> omega, fun z hz => by
                    rcases List.mem_append.1 hz with hz | hz
                    · exact HJ.out.bd z hz
                    · rw [List.mem_singleton] at hz; omega⟩⟩
                clear hae
                generalize o.length = ol0 at *
                go_quiet (fail)
                obtain ⟨A2, c2, w8, hr8, hT8⟩ := HPUSH.out nq
                have HR8 := Lib.hid hr8
                have HT := Lib.hid hT8
                clear hr8 hT8 HPUSH
                go_wp2_with ((with_reducible refine wpList_sel 46 ?_); refine wpList_val rfl (r_app (.tmp 44) (.tmp 45) 25 rfl rfl rfl HR8.out) ?_)
                generalize ol0 + 1 = m at *
                generalize o ++ [1] = o2 at *
                obtain ⟨g, z, rfl, hzz, hz1, hz2, ham, hmc1, hmc2, hzc, hzf, hx0, hx1, HAFT⟩ := HT.out.facts
                have hstep := HST.out
                rw [← hzz] at hstep
                have hpw := powE_le p n
                have he1 : ((powE p n : Nat) : Int) ≤ 1000000000 := by omega
                have he0 : (0 : Int) ≤ ((powE p n : Nat) : Int) := Int.natCast_nonneg _
                have HPW := Lib.hid fun W => power53_any W p n hp1 hp2 hn2
                have HMLEN := Lib.hid HT.out.len
                clear hpw hzz HST HT
                generalize ((powE p n : Nat) : Int) = e at *
                obtain ⟨hy1, hy2⟩ := mul_bd hz1 hz2 he0 he1
                obtain ⟨y, hy⟩ : ∃ y, y = z * e := ⟨_, rfl⟩
                rw [← hy] at hy1 hy2 hstep
                have hwz : IntKind.i64.wrap (z * e) = y := by rw [← hy]; exact IntWalk.i64_in _ (by omega)
                have HSTEP := Lib.hid hstep
                have hami : (0 : Int) < (m : Int) := by omega
                clear hstep hy
                go_wp2_with fail
                go_cut [22] from 22 to 72 (fun z22 wx => z22 = .int .i64 (((j + 1) : Nat) : Int) ∧ Hid (wx.cell? ⟨g, 0, none⟩ = some (.int .i64 y) ∧ OwnI w4.heap.size wx (.slice (some ⟨g, 0, none⟩) m c2) (o2.set 0 y) ∧ Below w4.heap.size w4 wx))
                case first =>
                  go_region_law (first
                    | (go_simp
                       go_at_call 31
                       (with_reducible refine (HPW.out _).mono ?_)
                       rintro e w' ⟨rfl, q, rfl⟩))
                  all_goals
                    go_wp2_with fail
                    go_meet
                    exact ⟨rfl, Lib.hid (HAFT.out _ _ rfl rfl rfl rfl)⟩
                case rest =>
                  obtain ⟨rfl, hcut2⟩ := hcut
                  have hyc := hcut2.out.1
                  clear hzc hzf hx0 hx1 HAFT HPW
                  by_cases hb1 : y < 1
                  · have HE5 : Hid (R = ([], 5)) := Lib.hid (by
                      have h := HSTEP.out
                      rw [if_pos (.inl hb1)] at h
                      have h2 := joinTo_none h (N - ((j + 1) + 1))
                      rw [show (j + 1) + 1 + (N - ((j + 1) + 1)) = N by omega] at h2
                      rw [HE2.out, joinOf_none h2])
                    go_wp2_with fail
                    go_ret2
                    rw [HE5.out]
                    exact ⟨⟨_, rfl, intsAt_nil⟩, HB4.out.trans (hcut2.out.2.2.mono HB4.out.size)⟩
                  · by_cases hb2 : 1000000000 < y
                    · have HE5 : Hid (R = ([], 5)) := Lib.hid (by
                        have h := HSTEP.out
                        rw [if_pos (.inr hb2)] at h
                        have h2 := joinTo_none h (N - ((j + 1) + 1))
                        rw [show (j + 1) + 1 + (N - ((j + 1) + 1)) = N by omega] at h2
                        rw [HE2.out, joinOf_none h2])
                      go_wp2_with fail
                      go_ret2
                      rw [HE5.out]
                      exact ⟨⟨_, rfl, intsAt_nil⟩, HB4.out.trans (hcut2.out.2.2.mono HB4.out.size)⟩
                    · have HS2 : Hid (joinTo L ((j + 1) + 1) = some (o2.set 0 y, 0 + 1)) := Lib.hid (by rw [HSTEP.out, if_neg (by omega)])
                      have HML2 : Hid (m = (o2.set 0 y).length) := Lib.hid (by rw [List.length_set]; exact HMLEN.out)
                      go_wp2_with fail
                      go_roundw
                      case rel => exact ⟨(j + 1) + 1, (o2.set 0 y, 0 + 1), some ⟨g, 0, none⟩, c2, by omega, by go_num, by go_num, by rw [← HML2.out], Lib.hid ⟨HS2.out, by rw [← HML2.out]; exact hcut2.out.2.1, hcut2.out.2.2⟩⟩
                      case measure => simp [intOf]; omega
              · have hde : ((0 : Int) == (o.length : Int)) = false := by simp; omega
                have HST : Hid (joinTo L ((j + 1) + 1) = if o.getD 0 0 * (powE p n : Int) < 1 ∨ 1000000000 < o.getD 0 0 * (powE p n : Int) then none else some (o.set 0 (o.getD 0 0 * (powE p n : Int)), 0 + 1)) := Lib.hid (join_step HTO.out HA.out (by unfold outE; rw [if_neg hae]) HPN.out.1 HPN.out.2)
                have HTQ : Hid (∀ q, JT w4 (W1.drewN q) X p n 0 o Ao o.length co) := Lib.hid fun q => ⟨owns_keep HW.out.2.1 fun _ _ => rfl, rfl, below_drewN HW.out.1 q, HW.out.2.2, by have := HLE.out; omega, HJ.out.bd⟩
                clear hae
                go_quiet (fail)
                have HT := Lib.hid (HTQ.out nq)
                clear HTQ
                generalize W1.drewN nq = W5 at *
                go_wp2_with fail
                generalize hml : o.length = m at *
                have HML := Lib.hid hml
                clear hml
                obtain ⟨o2, ho2⟩ : ∃ o2, o2 = o := ⟨_, rfl⟩
                rw [← ho2] at HT HST HML
                clear ho2
                obtain ⟨A2, hA2⟩ : ∃ A2, A2 = Ao := ⟨_, rfl⟩
                rw [← hA2] at HT ⊢
                clear hA2
                obtain ⟨c2, hc2'⟩ : ∃ c2, c2 = co := ⟨_, rfl⟩
                rw [← hc2'] at HT ⊢
                clear hc2'
                obtain ⟨g, z, rfl, hzz, hz1, hz2, ham, hmc1, hmc2, hzc, hzf, hx0, hx1, HAFT⟩ := HT.out.facts
                have hstep := HST.out
                rw [← hzz] at hstep
                have hpw := powE_le p n
                have he1 : ((powE p n : Nat) : Int) ≤ 1000000000 := by omega
                have he0 : (0 : Int) ≤ ((powE p n : Nat) : Int) := Int.natCast_nonneg _
                have HPW := Lib.hid fun W => power53_any W p n hp1 hp2 hn2
                have HMLEN := Lib.hid HT.out.len
                clear hpw hzz HST HT
                generalize ((powE p n : Nat) : Int) = e at *
                obtain ⟨hy1, hy2⟩ := mul_bd hz1 hz2 he0 he1
                obtain ⟨y, hy⟩ : ∃ y, y = z * e := ⟨_, rfl⟩
                rw [← hy] at hy1 hy2 hstep
                have hwz : IntKind.i64.wrap (z * e) = y := by rw [← hy]; exact IntWalk.i64_in _ (by omega)
                have HSTEP := Lib.hid hstep
                have hami : (0 : Int) < (m : Int) := by omega
                clear hstep hy
                go_wp2_with fail
                go_cut [22] from 22 to 72 (fun z22 wx => z22 = .int .i64 (((j + 1) : Nat) : Int) ∧ Hid (wx.cell? ⟨g, 0, none⟩ = some (.int .i64 y) ∧ OwnI w4.heap.size wx (.slice (some ⟨g, 0, none⟩) m c2) (o2.set 0 y) ∧ Below w4.heap.size w4 wx))
                case first =>
                  go_region_law (first
                    | (go_simp
                       go_at_call 31
                       (with_reducible refine (HPW.out _).mono ?_)
                       rintro e w' ⟨rfl, q, rfl⟩))
                  all_goals
                    go_wp2_with fail
                    go_meet
                    exact ⟨rfl, Lib.hid (HAFT.out _ _ rfl rfl rfl rfl)⟩
                case rest =>
                  obtain ⟨rfl, hcut2⟩ := hcut
                  have hyc := hcut2.out.1
                  clear hzc hzf hx0 hx1 HAFT HPW
                  by_cases hb1 : y < 1
                  · have HE5 : Hid (R = ([], 5)) := Lib.hid (by
                      have h := HSTEP.out
                      rw [if_pos (.inl hb1)] at h
                      have h2 := joinTo_none h (N - ((j + 1) + 1))
                      rw [show (j + 1) + 1 + (N - ((j + 1) + 1)) = N by omega] at h2
                      rw [HE2.out, joinOf_none h2])
                    go_wp2_with fail
                    go_ret2
                    rw [HE5.out]
                    exact ⟨⟨_, rfl, intsAt_nil⟩, HB4.out.trans (hcut2.out.2.2.mono HB4.out.size)⟩
                  · by_cases hb2 : 1000000000 < y
                    · have HE5 : Hid (R = ([], 5)) := Lib.hid (by
                        have h := HSTEP.out
                        rw [if_pos (.inr hb2)] at h
                        have h2 := joinTo_none h (N - ((j + 1) + 1))
                        rw [show (j + 1) + 1 + (N - ((j + 1) + 1)) = N by omega] at h2
                        rw [HE2.out, joinOf_none h2])
                      go_wp2_with fail
                      go_ret2
                      rw [HE5.out]
                      exact ⟨⟨_, rfl, intsAt_nil⟩, HB4.out.trans (hcut2.out.2.2.mono HB4.out.size)⟩
                    · have HS2 : Hid (joinTo L ((j + 1) + 1) = some (o2.set 0 y, 0 + 1)) := Lib.hid (by rw [HSTEP.out, if_neg (by omega)])
                      have HML2 : Hid (m = (o2.set 0 y).length) := Lib.hid (by rw [List.length_set]; exact HMLEN.out)
                      go_wp2_with fail
                      go_roundw
                      case rel => exact ⟨(j + 1) + 1, (o2.set 0 y, 0 + 1), some ⟨g, 0, none⟩, c2, by omega, by go_num, by go_num, by rw [← HML2.out], Lib.hid ⟨HS2.out, by rw [← HML2.out]; exact hcut2.out.2.1, hcut2.out.2.2⟩⟩
                      case measure => simp [intOf]; omega
        · obtain rfl : k = N := by omega
          have hJ := joinTo_ok HI.out.jto
          have hlen := hJ.len
          simp only at hlen
          have HRV := Lib.hid (reverse54_any w4.heap.size wr (.slice Ao o.length co) o HI.out.own (by omega))
          have HE5 : Hid (R = (o.reverse, 0)) := Lib.hid (by rw [HE2.out, joinOf_some HI.out.jto])
          have HBD := Lib.hid hJ.bd
          clear hJ hlen
          simp only
          go_wp2_with (go_at_call 32; (refine HRV.out.mono ?_); rintro e w5 ⟨rfl, ho, hb⟩; have HO := Lib.hid (And.intro ho hb); clear ho hb)
          go_ret2
          have h1 := OwnI.ints HO.out.1 fun z hz => by
            have := HBD.out z (List.mem_reverse.1 hz)
            omega
          rw [HE5.out]
          exact ⟨⟨_, rfl, h1⟩, HB4.out.trans ((HI.out.below.trans HO.out.2).mono HB4.out.size)⟩
end Go.Proofs
