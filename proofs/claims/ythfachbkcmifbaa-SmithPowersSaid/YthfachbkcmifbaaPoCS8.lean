/- smith.Smith; slices.DeleteFunc at a list of numbers of the call's own; smith.Smith and smith.Group, by what they return; The law's helpers: Same, SameLists, row, is, lives; Diagonal forms, plainly: the chapter's examples; is and lives: examples of the chapter. -/
import Derived.Test.YthfachbkcmifbaaPoCS7
import Derived.Lib.SliceRun
import Derived.Laws.IdiomCopy
import Derived.Lib.EndianMore
import Derived.Test.YthfachbkcmifbaaPoCS2
namespace Go.Proofs
open Go.RowKit Go.Shelf Go.Proofs.Sm
theorem rowsE_zero {n : Int} : ∀ {l : List (List Int)}, rowsE n l = 0 → ∀ x ∈ l, (x.length : Int) = n ∧ ∀ z ∈ x, -1000000 ≤ z ∧ z ≤ 1000000
  | [], _, x, hx => by cases hx
  | y :: l, h, x, hx => by
    unfold rowsE at h
    by_cases h1 : (y.length : Int) ≠ n
    · rw [if_pos h1] at h; omega
    · rw [if_neg h1] at h
      by_cases h2 : (y.any fun z => !entryB z) = true
      · rw [if_pos h2] at h; omega
      · rw [if_neg h2] at h
        rcases List.mem_cons.1 hx with rfl | hx
        · refine ⟨by omega, fun z hz => ?_⟩
          have h3 : (x.any fun z => !entryB z) = false := by simpa using h2
          rw [List.any_eq_false] at h3
          have h4 := h3 z hz
          unfold entryB at h4
          simpa using h4
        · exact rowsE_zero h x hx
theorem valid_of_check {n : Int} {l : List (List Int)} (h : checkE n l = 0) : 1 ≤ n ∧ n ≤ 16 ∧ l.length ≤ 100 ∧ Valid n.toNat l := by
  unfold checkE at h
  by_cases h1 : n < 1 ∨ 16 < n
  · rw [if_pos h1] at h; omega
  · rw [if_neg h1] at h
    by_cases h2 : 100 < l.length
    · rw [if_pos h2] at h; omega
    · rw [if_neg h2] at h
      refine ⟨by omega, by omega, by omega, fun x hx => ?_, fun i j => ?_⟩
      · have := (rowsE_zero h x hx).1; omega
      · unfold ent
        rcases Nat.lt_or_ge i l.length with hi | hi
        · rw [List.getD_eq_getElem?_getD (l := l), List.getElem?_eq_getElem hi]
          rcases Nat.lt_or_ge j l[i].length with hj | hj
          · rw [Option.getD_some, List.getD_eq_getElem?_getD, List.getElem?_eq_getElem hj]
            exact (rowsE_zero h _ (List.getElem_mem hi)).2 _ (List.getElem_mem hj)
          · rw [Option.getD_some, List.getD_eq_getElem?_getD, List.getElem?_eq_none hj]; simp
        · rw [List.getD_eq_getElem?_getD (l := l), List.getElem?_eq_none hi]; simp
/-- what Smith returns -/
def SmE (n : Int) (l : Mat) (d : List Int) (u v : Mat) (er : Int) : Prop :=
  (checkE n l ≠ 0 ∧ d = [] ∧ u = [] ∧ v = [] ∧ er = checkE n l) ∨ (checkE n l = 0 ∧ ((Out n.toNat l none ∧ d = [] ∧ u = [] ∧ v = [] ∧ er = 5) ∨ ∃ s, Out n.toNat l (some s) ∧ d = diagOf s ∧ u = s.u ∧ v = s.v ∧ er = 0))
def SmithPost (d : List Int) (u v : Mat) (er : Int) (w : World) (e : Ending) (w' : World) : Prop := (∃ vd vu vv, e = .returned (.tuple #[vd, vu, vv, .int .i64 er]) ∧ IntsAt w' vd d ∧ Tab w' vu u ∧ Tab w' vv v) ∧ Below w.heap.size w w'
/-- and the diagonal lies in memory of the call's own -/
def SmithPostD (d : List Int) (u v : Mat) (er : Int) (w : World) (e : Ending) (w' : World) : Prop := (∃ vd vu vv, e = .returned (.tuple #[vd, vu, vv, .int .i64 er]) ∧ IntsAt w' vd d ∧ Tab w' vu u ∧ Tab w' vv v ∧ ∀ r, vd.ownBlock = some r → w.heap.size ≤ r) ∧ Below w.heap.size w w'
def SmithPostO (o : Option S) (w : World) (e : Ending) (w' : World) : Prop := match o with
  | none => SmithPostD [] [] [] 5 w e w'
  | some s => SmithPostD (diagOf s) s.u s.v 0 w e w'
theorem WkM.tab {T b base : Nat} {w : World} {s : S} {x : Value} {vs : Nat → Value} {bl cs : Nat → Nat → Nat} (h : WkM T b base w s x vs bl cs) {k : Nat} (hk : k < 3) (hf : ∀ y ∈ s.mat k, Fits y) : Tab w (vs k) (s.mat k) :=
  ⟨_, sl_of_owns (h.out k hk), by simp, fun i hi => rowsV_at h hk hi (hf _ (by rw [List.getD_eq_getElem?_getD, List.getElem?_eq_getElem hi]; exact List.getElem_mem hi))⟩
theorem fits_mat {m : Mat} (h : ∀ i j, -1000000000 ≤ ent m i j ∧ ent m i j ≤ 1000000000) : ∀ y ∈ m, Fits y := fun y hy z hz => by
  obtain ⟨i, hi, rfl⟩ := List.getElem_of_mem hy
  obtain ⟨j, hj, rfl⟩ := List.getElem_of_mem hz
  have h1 := h i j
  unfold ent at h1
  rw [List.getD_eq_getElem?_getD (l := m), List.getElem?_eq_getElem hi, Option.getD_some, List.getD_eq_getElem?_getD, List.getElem?_eq_getElem hj, Option.getD_some] at h1
  omega
theorem owns_xs {base : Nat} {w : World} {A : Option Addr} {c : Nat} {xs : List Int} (h : OwnI base w (.slice A xs.length c) xs) (h0 : 0 < xs.length) : ∃ g, A = some ⟨g, 0, none⟩ ∧ XsAt w g xs ∧ base ≤ g ∧ xs.length ≤ c ∧ c ≤ 9223372036854775807 := by
  obtain ⟨hl, ho⟩ := h
  rcases ho with ⟨-, h1⟩ | ⟨g, cap, cur, e, hb, hC, h1, hm, hs, ht⟩
  · omega
  · have e1 : A = some ⟨g, 0, none⟩ := by injection e
    have e2 : c = cap := by injection e
    subst e2
    refine ⟨g, e1, ⟨cur, hC, by omega, fun k hk => ?_⟩, hb, h1, by simpa [maxLen] using hm⟩
    have h2 : (cur.toList.take (xs.length * 1))[k]? = (ints xs)[k]? := by rw [ht]
    rw [List.getElem?_take, if_pos (by omega)] at h2
    simpa [ints, hk, List.getD_eq_getElem?_getD] using h2
theorem take_getD (l : List (List Int)) {k : Nat} (h : k < l.length) : l.take k ++ [l.getD k []] = l.take (k + 1) := by
  rw [List.take_succ_eq_append_getElem h, List.getD_eq_getElem?_getD, List.getElem?_eq_getElem h]; rfl
theorem diag_take (s : S) {i : Nat} (h : i < s.t) : (diagOf s).take i ++ [dia s i] = (diagOf s).take (i + 1) := by
  rw [List.take_succ_eq_append_getElem (by rw [length_diagOf]; exact h)]
  simp [diagOf, dia]
theorem smith_no (w : World) (n : Int) (v : Value) (l : List (List Int)) (h : Tab w v l) (hc : checkE n l ≠ 0) : Calls Try.prog 11 #[.int .i64 n, v] w (SmithPostD [] [] [] (checkE n l) w) := by
  have HC := Lib.hid (check15_any w n v l h)
  have hd : (checkE n l != 0) = true := by simpa using hc
  obtain ⟨A0, c0, rfl, -, -, -⟩ := h.open_
  clear h hc
  generalize checkE n l = z at *
  go_enter Try.func11, Try.ntmps11
  go_wp2_with (go_at_call 15; (refine HC.out.mono ?_); rintro e w' ⟨rfl, q, rfl⟩)
  exact bodyPost_ret (v := .tuple #[.slice none 0 0, .slice none 0 0, .slice none 0 0, .int .i64 z]) (by simp [results, Try.results11, go_sem]) rfl ⟨⟨_, _, _, rfl, intsAt_nil, tab_nil, tab_nil, fun r hr => by cases hr⟩, below_drewN (Below.refl _ _) _⟩
set_option maxRecDepth 100000 in
set_option maxHeartbeats 400000 in
theorem smith_over (w : World) (n : Nat) (v : Value) (l : List (List Int)) (h : Tab w v l) (hc : checkE n l = 0) (o : Option S) (ho : Out n l o) : Calls Try.prog 11 #[.int .i64 (n : Int), v] w (SmithPostO o w) := by
  have hch := check15_any w n v l h
  rw [hc] at hch
  obtain ⟨hn1, hn2, hl, hval⟩ := valid_of_check hc
  rw [Int.toNat_natCast] at hval
  have HC := Lib.hid hch
  have HV := Lib.hid hval
  have HT := Lib.hid h
  obtain ⟨A0, c0, rfl, hc1, hc2, hcc⟩ := h.open_
  have HIDN : Hid (∀ W, Calls Try.prog 33 #[.int .i64 (n : Int)] W (IdPost n W)) := Lib.hid fun W => identity33_any W n (by omega)
  have HCC := Lib.hid hcc
  clear h hch hval hcc hc
  obtain ⟨r, hr⟩ : ∃ r, r = l.length := ⟨_, rfl⟩
  rw [← hr] at hl hc1 HCC HC HT ⊢
  have HR := Lib.hid hr
  clear hr
  have HIDR : Hid (∀ W, Calls Try.prog 33 #[.int .i64 (r : Int)] W (IdPost r W)) := Lib.hid fun W => identity33_any W r (by omega)
  have hr0 : (0 : Int) ≤ (r : Int) := Int.natCast_nonneg _
  have hrb : (r : Int) ≤ 100 := by omega
  go_enter Try.func11, Try.ntmps11
  go_wp2_with (first
    | (go_at_call 15; (refine HC.out.mono ?_); rintro e w' ⟨rfl, q, rfl⟩)
    | (go_at_call 33; (with_reducible refine (HIDR.out _).mono ?_); rintro e w1 ⟨Au, cu, blu, csu, rfl, hmu, hb1⟩; have HMU := Lib.hid hmu; have HB1 := Lib.hid hb1; clear hmu hb1)
    | (go_at_call 33; (with_reducible refine (HIDN.out _).mono ?_); rintro e w2 ⟨Av, cv, blv, csv, rfl, hmv, hb2⟩; have HMV := Lib.hid hmv; have HB2 := Lib.hid hb2; clear hmv hb2))
  have hbase : w.heap.size ≤ w2.heap.size := Nat.le_trans HB1.out.size HB2.out.size
  have hst := WkM.start (r := r) (n := n) (base := w.heap.size) (base2 := w1.heap.size) hbase (HMU.out.keep HB2.out) HB1.out.size ⟨fun i hi => HMU.out.lt.1 i (by rw [idM_length]; exact hi), fun g hg => (HMU.out.lt.2 g hg).2⟩ HMV.out
  have hbw0 : Below w.heap.size w (w2.alloc (.cells #[.slice none 0 0, .slice Au r cu, .slice Av n cv, .int .i64 0] 66)) := ((below_drewN (Below.refl w.heap.size w) q).trans (HB1.out.trans (HB2.out.mono HB1.out.size))).alloc hbase _
  have HST := Lib.hid (And.intro hst hbw0)
  clear hst hbw0 hbase
  generalize hb : w2.heap.size = b at *
  generalize w2.alloc (.cells #[.slice none 0 0, .slice Au r cu, .slice Av n cv, .int .i64 0] 66) = w3 at *
  clear hb
  go_loopw [28] (fun z wr => ∃ k : Nat, k ≤ r ∧ z = .int .i64 k ∧ Hid (Wk 66 b w.heap.size wr ⟨l.take k, idM r, idM n, 0⟩ (.int .i64 0) ∧ Below w.heap.size w wr)) (fun z _ => r - (intOf z).toNat)
  case atStart => exact ⟨0, by omega, rfl, Lib.hid ⟨HST.out.1, HST.out.2⟩⟩
  case round =>
    obtain ⟨k, hk, rfl, HQ⟩ := hrel
    have hk0 : (0 : Int) ≤ (k : Int) := Int.natCast_nonneg _
    by_cases hlt : k < r
    · have hlt' : (k : Int) < (r : Int) := by omega
      obtain ⟨bo, oo, rfl, hcells⟩ := HCC.out (by omega)
      obtain ⟨u, hu, hI⟩ := hcells k hlt
      have hu2 := (HQ.out.2.cell (p := ⟨bo, oo + k, none⟩) (World.block_lt_of_cell? w _ hu)).trans hu
      have hrow : (l.getD k []).length = n := HV.out.row _ (by rw [List.getD_eq_getElem?_getD, List.getElem?_eq_getElem (by rw [← HR.out]; exact hlt)]; exact List.getElem_mem _)
      obtain ⟨A5, c5, rfl, e1, e2, -⟩ := hI.open_
      rw [hrow] at e1 hu2
      have htk := take_getD l (k := k) (by rw [← HR.out]; exact hlt)
      have hlen : (l.take k).length = k := by rw [List.length_take]; have := HR.out; omega
      have HCL : Hid (∀ W, Below wr.heap.size wr W → Calls Try.prog 34 #[.slice A5 n c5] W fun e w' => ∃ g c, e = .returned (.slice (some ⟨g, 0, none⟩) n c) ∧ XsAt w' g (l.getD k []) ∧ W.heap.size ≤ g ∧ n ≤ c ∧ c ≤ 9223372036854775807 ∧ Below W.heap.size W w') := Lib.hid fun W hb => by
        have h := clone34_any W (.slice A5 (l.getD k []).length c5) (l.getD k []) (kept_ints.below hI (HQ.out.2.trans (hb.mono HQ.out.2.size))) (by omega)
        rw [hrow] at h
        refine h.mono fun e w' ⟨A, c, h1, h2, h3⟩ => ?_
        rw [← hrow] at h2
        obtain ⟨g, rfl, h4, h5, h6, h7⟩ := owns_xs h2 (by omega)
        rw [hrow] at h6
        exact ⟨g, c, h1, h4, h5, h6, h7, h3⟩
      obtain ⟨vs, bl, cs, hM⟩ := HQ.out.1
      obtain ⟨d0, -, -, -, d4⟩ := hM.cells
      obtain ⟨Aa, ca, hva, ha1, ha2⟩ := hM.form (k := 0) (by omega)
      have hl0 : (S.mat ⟨l.take k, idM r, idM n, 0⟩ 0).length = k := hlen
      rw [hl0] at hva
      rw [hva] at d0
      have HPUSH : Hid (∀ W g c, Below wr.heap.size wr W → XsAt W g (l.getD k []) → wr.heap.size ≤ g → n ≤ c → c ≤ 9223372036854775807 → ∃ A' c' w', (Builtin.append_ #[22, 22] 22 #[.slice Aa k ca, .slice (some ⟨W.heap.size, 0, none⟩) 1 1]).run Try.prog (W.alloc (.cells #[.slice (some ⟨g, 0, none⟩) n c] 25)) = .ok (.slice A' (k + 1) c') w' ∧ (∃ u, w'.cell? ⟨b, 0, none⟩ = some u) ∧ w'.frozen? ⟨b, 0, none⟩ = false ∧ Wk 66 b w.heap.size (w'.setCell ⟨b, 0, none⟩ (.slice A' (k + 1) c')) ⟨l.take (k + 1), idM r, idM n, 0⟩ (.int .i64 0) ∧ Below w.heap.size w (w'.setCell ⟨b, 0, none⟩ (.slice A' (k + 1) c'))) := Lib.hid fun W g c hb hx hg hc1 hc2 => by
        have h := (hM.below hb).push (g := g) (c := c) (xs := l.getD k []) (Nat.le_trans HQ.out.2.size hb.size) hx (Nat.le_trans HQ.out.2.size hg) (by rw [hrow]; exact hc1) hc2 (fun k' i hk' hi e => by
          have h1 := (hM.row k' i hk' hi).2.1.lt
          omega) (by show (l.take k).length ≤ 1000000; omega)
        obtain ⟨A', c', w', h1, h2, h3, h4, h5⟩ := h
        have hlen' : (S.mk (l.take k) (idM r) (idM n) 0).a.length = k := hlen
        rw [hva, hrow, hlen'] at h1
        rw [hlen'] at h4 h5
        refine ⟨A', c', w', h1, h2, h3, ?_, HQ.out.2.trans ((hb.mono HQ.out.2.size).trans h5)⟩
        rw [← htk]
        exact h4
      clear hM hva ha1 ha2 hl0 hcells hu hI hrow htk hlen
      go_wp2_with fail
      go_region_law (first
        | (go_simp
           go_at_call 34
           (refine (HCL.out _ (below_drew (Below.refl _ _))).mono ?_)
           rintro e w4 ⟨g, c, rfl, hx, hg, hc3, hc4, hb4⟩
           obtain ⟨A', c', w5, hR5, ⟨u5, hu5⟩, hf5, hWk5, hB5⟩ := HPUSH.out w4 g c ((below_drew (Below.refl _ _)).trans hb4) hx hg hc3 hc4
           have hd4 : w4.cell? ⟨b, 0, none⟩ = some (.slice Aa k ca) := (((below_drew (Below.refl wr.heap.size wr)).trans hb4).cell (p := ⟨b, 0, none⟩) (World.block_lt_of_cell? wr _ d0)).trans d0
           have hbl4 : b < w4.heap.size := World.block_lt_of_cell? w4 _ hd4
           have HR5 := Lib.hid hR5
           have HF5 := Lib.hid (And.intro hWk5 hB5)
           clear hx hg hc3 hc4 hb4 hR5 hWk5 hB5)
        | (refine step_sel 40 ?_
           refine step_val rfl (r_app (.tmp 36) (.tmp 39) 22 rfl rfl rfl HR5.out) ?_))
      all_goals
        go_wp2_with fail
        go_roundw
        case rel => exact ⟨k + 1, by omega, by go_num, Lib.hid (by first | exact HF5.out | exact ⟨HF5.out.1.drewN 1, below_drew HF5.out.2⟩)⟩
        case measure => simp [intOf]; omega
    · obtain rfl : k = r := by omega
      have htake : (S.mk (l.take k) (idM k) (idM n) 0) = S.start n l := by
        rw [HR.out, List.take_length]; rfl
      obtain ⟨m, hm⟩ := ho
      have hbase := base_start HV.out
      have HRUN := Lib.hid (run35_any w.heap.size b l.length n wr (S.start n l) o m (by rw [← HR.out]; omega) (by omega) (by rw [← htake]; exact HQ.out.1) HQ.out.2.size hbase hm)
      have HEND : Hid (∀ s, o = some s → Sm.End l.length n s) := Lib.hid fun s hs => out_end HV.out ⟨m, by rw [hm, hs]⟩
      clear htake hm hbase HCC
      cases o with
      | none =>
        go_wp2_with (go_at_call 35; (refine HRUN.out.mono ?_); rintro e w6 ⟨hch, rfl⟩; have HCH := Lib.hid hch; clear hch)
        exact bodyPost_ret (v := .tuple #[.slice none 0 0, .slice none 0 0, .slice none 0 0, .int .i64 5]) (by simp [results, Try.results11, go_sem]) rfl ⟨⟨_, _, _, rfl, intsAt_nil, tab_nil, tab_nil, fun r hr => by cases hr⟩, HQ.out.2.trans HCH.out.below⟩
      | some s =>
        have HE := Lib.hid (HEND.out s rfl)
        have htb : s.t ≤ n := HE.out.tn
        have htr : s.t ≤ l.length := HE.out.tr
        rw [← HR.out] at htr
        go_wp2_with (go_at_call 35; (refine HRUN.out.mono ?_); rintro e w6 ⟨hch, rfl, hw6⟩; have HCH := Lib.hid (HQ.out.2.trans hch.below); have HW6 := Lib.hid hw6; have hc3 := hw6.cell3.1; clear hch hw6)
        have hbd : ∀ i, -1000000000 ≤ dia s i ∧ dia s i ≤ 1000000000 := fun i => HE.out.toBase.bda i i
        have HBD := Lib.hid hbd
        obtain ⟨T0, hT0⟩ : ∃ T0, T0 = s.t := ⟨_, rfl⟩
        rw [← hT0] at hc3 htb htr ⊢
        have HT0 := Lib.hid hT0
        have HLOOK : Hid (∀ i, i < T0 → ∃ g d bt ct, w6.cell? ⟨b, 0, none⟩ = some (.slice (some ⟨g, 0, none⟩) k d) ∧ w6.cell? ⟨g, i, none⟩ = some (.slice (some ⟨bt, 0, none⟩) n ct) ∧ w6.cell? ⟨bt, i, none⟩ = some (.int .i64 (dia s i)) ∧ n ≤ ct ∧ ct ≤ 9223372036854775807 ∧ k ≤ d ∧ d ≤ 9223372036854775807) := Lib.hid fun i hi => by
          have hsh := HE.out.sh
          rw [← HR.out] at hsh
          obtain ⟨g, d, bt, ct, q1, q2, q3, q4, q5, q6, q7, q8⟩ := HW6.out.look hsh (i := i) (j := i) (by omega) (by omega)
          exact ⟨g, d, bt, ct, q1, q3, q4, q5, q6, q7, q8⟩
        clear hbd hT0
        have hTb : (T0 : Int) ≤ 16 := by omega
        go_loopw [4, 51] (fun zd z wr => ∃ (i : Nat) (A : Option Addr) (c : Nat), i ≤ T0 ∧ z = .int .i64 i ∧ zd = .slice A i c ∧ Hid (OwnI w6.heap.size wr (.slice A i c) ((diagOf s).take i) ∧ Below w6.heap.size w6 wr)) (fun _ z _ => T0 - (intOf z).toNat)
        case atStart => exact ⟨0, none, 0, by omega, rfl, rfl, Lib.hid ⟨World.ownsRow_nil _ _ _ _, Below.refl _ _⟩⟩
        case round =>
          obtain ⟨i, A, c, hi, rfl, rfl, HI⟩ := hrel
          have hi0 : (0 : Int) ≤ (i : Int) := Int.natCast_nonneg _
          by_cases hil : i < T0
          · have hil' : (i : Int) < (T0 : Int) := by omega
            obtain ⟨g, d, bt, ct, q1, q3, q4, q5, q6, q7, q8⟩ := HLOOK.out i hil
            have p1 := (HI.out.2.cell (p := ⟨b, 0, none⟩) (World.block_lt_of_cell? w6 _ q1)).trans q1
            have p3 := (HI.out.2.cell (p := ⟨g, i, none⟩) (World.block_lt_of_cell? w6 _ q3)).trans q3
            have p4 := (HI.out.2.cell (p := ⟨bt, i, none⟩) (World.block_lt_of_cell? w6 _ q4)).trans q4
            have hik : (i : Int) < (k : Int) := by omega
            have hin : (i : Int) < (n : Int) := by omega
            have hlen : ((diagOf s).take i).length = i := by rw [List.length_take, length_diagOf, ← HT0.out]; omega
            have hdt := diag_take s (i := i) (by rw [← HT0.out]; exact hil)
            obtain ⟨A', c', w8, hr8, ho8, hg8, -⟩ := push_int 25 25 Try.underlying25 wr w6.heap.size (.slice A i c) ((diagOf s).take i) HI.out.1 (dia s i) (by omega) HI.out.2.size
            rw [hlen] at hr8 ho8
            rw [hdt] at ho8
            have HR8 := Lib.hid hr8
            have HN8 : Hid (OwnI w6.heap.size w8 (.slice A' (i + 1) c') ((diagOf s).take (i + 1)) ∧ Below w6.heap.size w6 w8) := Lib.hid ⟨ho8, HI.out.2.grown hg8 HI.out.2.size (fun r hr => (owns_block HI.out.1 r hr).1)⟩
            clear q1 q3 q4 hlen hdt hr8 ho8 hg8 hc3
            generalize dia s i = z at *
            go_wp2_with ((with_reducible refine wpList_sel 66 ?_); refine wpList_val rfl (r_app (.tmp 54) (.tmp 65) 25 rfl rfl rfl HR8.out) ?_)
            go_roundw
            case rel => exact ⟨i + 1, A', c', by omega, by go_num, rfl, HN8⟩
            case measure => simp [intOf]; omega
          · obtain rfl : i = T0 := by omega
            have hdl : (diagOf s).take i = diagOf s := List.take_of_length_le (by rw [length_diagOf, ← HT0.out]; exact Nat.le_refl _)
            obtain ⟨vs, bl, cs, hM⟩ := HW6.out.below HI.out.2
            obtain ⟨d0, d1, d2, d3, d4⟩ := hM.cells
            obtain ⟨Au', cu', hvu, -, -⟩ := hM.form (k := 1) (by omega)
            obtain ⟨Av', cv', hvv, -, -⟩ := hM.form (k := 2) (by omega)
            have htu : Tab wr (vs 1) s.u := hM.tab (k := 1) (by omega) (fits_mat HE.out.toBase.bdu)
            have htv : Tab wr (vs 2) s.v := hM.tab (k := 2) (by omega) (fits_mat HE.out.toBase.bdv)
            rw [show s.mat 1 = s.u from rfl] at hvu
            rw [show s.mat 2 = s.v from rfl] at hvv
            rw [hvu] at d1 htu
            rw [hvv] at d2 htv
            have hdi : IntsAt wr (.slice A i c) (diagOf s) := by
              have h := HI.out.1
              rw [hdl] at h
              exact OwnI.ints h fun z hz => by
                simp only [diagOf, List.mem_map] at hz
                obtain ⟨j, -, rfl⟩ := hz
                have := HBD.out j
                unfold dia at this
                omega
            have HSEP : Hid (∀ r, (Value.slice A i c).ownBlock = some r → w.heap.size ≤ r) := Lib.hid fun r hr => Nat.le_trans HCH.out.size (owns_block HI.out.1 r hr).1
            have HRES := Lib.hid (And.intro hdi (And.intro htu (And.intro htv (HCH.out.trans (HI.out.2.mono HCH.out.size)))))
            clear hM hvu hvv htu htv hdi d0 d3 d4 hdl hc3
            generalize s.u.length = lu at *
            generalize s.v.length = lv at *
            go_wp2_with fail
            go_quiet (fail)
            go_wp2_with fail
            exact bodyPost_ret (v := .tuple #[.slice A i c, .slice Au' lu cu', .slice Av' lv cv', .int .i64 0]) (by simp [results, Try.results11, go_sem]) rfl ⟨⟨_, _, _, rfl, HRES.out.1.drewN _, kept_tab.below HRES.out.2.1 (below_drewN (Below.refl _ _) _), kept_tab.below HRES.out.2.2.1 (below_drewN (Below.refl _ _) _), HSEP.out⟩, below_drewN HRES.out.2.2.2 _⟩
end Go.Proofs
namespace Go.Proofs
open Go.RowKit Go.Shelf Go.Proofs.Sm
/-- the index of the first hit, or -1 -/
def IdxAt (p : Int → Bool) (xs : List Int) (e : Ending) : Prop := (e = .returned (.int .i64 (-1)) ∧ ∀ j, j < xs.length → p (xs.getD j 0) = false) ∨ ∃ k : Nat, e = .returned (.int .i64 (k : Int)) ∧ k < xs.length ∧ p (xs.getD k 0) = true ∧ ∀ j, j < k → p (xs.getD j 0) = false
section
variable (g : Nat) (lb : Array Value) (ok : Int → Prop) (p : Int → Bool) (w : World) (eg : ∀ args w, (callFunc g args).run Try.prog w = .ok (.enter g args) w) (hp : PredW g lb ok p w) (v : Value) (xs : List Int) (h : IntsAt w v xs) (hok : ∀ x ∈ xs, ok x)
include eg hp h hok
set_option maxHeartbeats 400000 in
theorem idx60_at : Calls Try.prog 60 #[v, .func (.func g) #[] lb] w fun e w' => IdxAt p xs e ∧ ∃ q, w' = w.drewN q := by
  obtain ⟨A, c, rfl, hc1, hc2, hc⟩ := h.open_
  have HC := Lib.hid hc
  have HP := Lib.hid hp
  have HK := Lib.hid hok
  clear hc hp h hok
  go_enter Try.func60, Try.ntmps60
  go_wp2_with fail
  go_loopw [5, 8] (fun _ i wr => ∃ k : Nat, k ≤ xs.length ∧ i = .int .i64 k ∧ (∀ j, j < k → p (xs.getD j 0) = false) ∧ ∃ q, wr = w.drewN q) (fun _ i _ => xs.length - (intOf i).toNat)
  case atStart => exact ⟨0, Nat.zero_le _, rfl, fun j hj => absurd hj (by omega), 0, rfl⟩
  case round =>
    obtain ⟨k, hk, rfl, hz, q, rfl⟩ := hrel
    have HZ := Lib.hid hz
    clear hz
    by_cases hlt : k < xs.length
    · obtain ⟨b, o, rfl, hcc⟩ := HC.out (by omega)
      have hck := hcc k hlt
      have hx : ok (xs.getD k 0) := HK.out _ (by rw [List.getD_eq_getElem?_getD, List.getElem?_eq_getElem hlt]; exact List.getElem_mem hlt)
      clear hcc
      generalize hxe : xs.getD k 0 = x at *
      have HXE := Lib.hid hxe
      clear hxe
      have HX := Lib.hid hx
      clear hx
      have hcall := HP.out x q HX.out
      cases hq : p x with
      | true =>
        rw [hq] at hcall
        have HQ := Lib.hid hq
        clear hq
        have HCALL := Lib.hid hcall
        clear hcall
        go_wp2_with (go_at_fn g; (refine HCALL.out.mono ?_); rintro e w' ⟨rfl, q', rfl⟩)
        go_ret
        exact ⟨.inr ⟨k, rfl, hlt, by rw [HXE.out]; exact HQ.out, HZ.out⟩, _, rfl⟩
      | false =>
        rw [hq] at hcall
        have HQ := Lib.hid hq
        clear hq
        have HCALL := Lib.hid hcall
        clear hcall
        go_wp2_with (go_at_fn g; (refine HCALL.out.mono ?_); rintro e w' ⟨rfl, q', rfl⟩)
        go_roundw
        case rel => exact ⟨k + 1, by omega, by go_num, all_succ HZ.out (by rw [HXE.out]; exact HQ.out), _, rfl⟩
        case measure => simp [intOf]; omega
    · obtain rfl : k = xs.length := by omega
      go_wp2_with fail
      go_ret
      exact ⟨.inl ⟨rfl, HZ.out⟩, _, rfl⟩
end
theorem filter_all {p : Int → Bool} {xs : List Int} (h : ∀ j, j < xs.length → p (xs.getD j 0) = false) : (xs.filter fun x => !p x) = xs := by
  rw [List.filter_eq_self]
  intro x hx
  obtain ⟨i, hi, rfl⟩ := List.getElem_of_mem hx
  have := h i hi
  rw [List.getD_eq_getElem?_getD, List.getElem?_eq_getElem hi] at this
  simpa using this
/-- a list under way: the first i are what is left of the first j of xs -/
structure DelTo (p : Int → Bool) (xs ys : List Int) (i j : Nat) : Prop where
  len : ys.length = xs.length
  lt : i < j
  front : ys.take i = (xs.take j).filter fun x => !p x
  back : ∀ q, j ≤ q → ys.getD q 0 = xs.getD q 0
theorem DelTo.start {p : Int → Bool} {xs : List Int} {k : Nat} (hk : k < xs.length) (hp : p (xs.getD k 0) = true) (hz : ∀ j, j < k → p (xs.getD j 0) = false) : DelTo p xs xs k (k + 1) := by
  refine ⟨rfl, by omega, ?_, fun q _ => rfl⟩
  rw [List.take_succ_eq_append_getElem hk, List.filter_append]
  have h1 : ((xs.take k).filter fun x => !p x) = xs.take k := filter_all fun j hj => by
    rw [List.length_take] at hj
    have := hz j (by omega)
    rwa [show (xs.take k).getD j 0 = xs.getD j 0 by simp [List.getD_eq_getElem?_getD, show j < k by omega]]
  rw [h1]
  rw [List.getD_eq_getElem?_getD, List.getElem?_eq_getElem hk] at hp
  have hp' : p xs[k] = true := hp
  simp [hp']
theorem DelTo.keep {p : Int → Bool} {xs ys : List Int} {i j : Nat} (h : DelTo p xs ys i j) (hj : j < xs.length) (hp : p (xs.getD j 0) = false) : DelTo p xs (ys.set i (xs.getD j 0)) (i + 1) (j + 1) := by
  have hl := h.lt
  refine ⟨by simp [h.len], by omega, ?_, fun q hq => by rw [getD_set_, if_neg (by omega)]; exact h.back q (by omega)⟩
  rw [List.take_succ_eq_append_getElem hj, List.filter_append, ← h.front]
  rw [List.getD_eq_getElem?_getD, List.getElem?_eq_getElem hj] at hp ⊢
  have hp' : p xs[j] = false := hp
  rw [List.take_succ_eq_append_getElem (by rw [List.length_set, h.len]; omega)]
  have e : (ys.set i xs[j]).take i = ys.take i := by rw [List.take_set]; exact List.set_eq_of_length_le (by rw [List.length_take]; omega)
  simp [hp', e]
theorem DelTo.skip {p : Int → Bool} {xs ys : List Int} {i j : Nat} (h : DelTo p xs ys i j) (hj : j < xs.length) (hp : p (xs.getD j 0) = true) : DelTo p xs ys i (j + 1) := by
  have hl := h.lt
  refine ⟨h.len, by omega, ?_, fun q hq => h.back q (by omega)⟩
  rw [h.front, List.take_succ_eq_append_getElem hj, List.filter_append]
  rw [List.getD_eq_getElem?_getD, List.getElem?_eq_getElem hj] at hp
  have hp' : p xs[j] = true := hp
  simp [hp']
theorem zero3 (w : World) : (zeroValue 3).run Try.prog w = .ok (.int .i64 0) w := by kernel_rfl
def DelPost (xs : List Int) (base : Nat) (w : World) (e : Ending) (w' : World) : Prop := (∃ v, e = .returned v ∧ IntsAt w' v xs) ∧ Below base w w'
set_option maxRecDepth 100000 in
set_option maxHeartbeats 1000000 in
theorem delete39_any (base fn : Nat) (ok : Int → Prop) (p : Int → Bool) (w : World) (eg : ∀ args w, (callFunc fn args).run Try.prog w = .ok (.enter fn args) w) (hp : ∀ W, PredW fn #[] ok p W) (g c : Nat) (xs : List Int) (hx : XsAt w g xs) (hg : base ≤ g) (hc1 : xs.length ≤ c) (hc2 : c ≤ 9223372036854775807) (hf : Fits xs) (hok : ∀ x ∈ xs, ok x) :
    Calls Try.prog 39 #[.slice (some ⟨g, 0, none⟩) xs.length c, .func (.func fn) #[] #[]] w (DelPost (xs.filter fun x => !p x) base w) := by
  have HIDX := Lib.hid (idx60_at fn #[] ok p w eg (hp w) (.slice (some ⟨g, 0, none⟩) xs.length c) xs (hx.ints rfl hc1 hc2 hf) hok)
  have HX := Lib.hid hx
  have HP := Lib.hid hp
  have HF := Lib.hid hf
  have HOK : Hid (∀ j, j < xs.length → ok (xs.getD j 0)) := Lib.hid fun j hj => hok _ (by rw [List.getD_eq_getElem?_getD, List.getElem?_eq_getElem hj]; exact List.getElem_mem hj)
  have HEG := Lib.hid eg
  clear hx hp hf hok
  have hx0 : (0 : Int) ≤ (xs.length : Int) := Int.natCast_nonneg _
  go_enter Try.func39, Try.ntmps39
  go_wp2_with fail
  refine HIDX.out.mono ?_
  rintro e w1 ⟨hidx, q, rfl⟩
  rcases hidx with ⟨rfl, hall⟩ | ⟨k, rfl, hk, hhit, hbef⟩
  · have HALL := Lib.hid (filter_all hall)
    clear hall
    go_wp2_with fail
    go_ret
    exact ⟨⟨_, rfl, by rw [HALL.out]; exact (HX.out.ints rfl hc1 hc2 HF.out).drewN _⟩, below_drewN (Below.refl _ _) _⟩
  · have HD := Lib.hid (DelTo.start hk hhit hbef)
    have hd1 : ((k : Int) == -1) = false := beq_eq_false_iff_ne.2 (by omega)
    have hkb : (k : Int) < (xs.length : Int) := by omega
    have hk0 : (0 : Int) ≤ (k : Int) := Int.natCast_nonneg _
    have hk1 : k + 1 ≤ xs.length := hk
    clear hhit hbef hk
    go_wp2_with fail
    go_loopw [5, 6, 7] (fun zi zj _ wr => ∃ (i j : Nat) (ys : List Int), zi = .int .i64 i ∧ zj = .int .i64 j ∧ j ≤ xs.length ∧ Hid (DelTo p xs ys i j ∧ XsAt wr g ys ∧ Below base w wr)) (fun _ zj _ _ => xs.length - (intOf zj).toNat)
    case atStart => exact ⟨k, k + 1, xs, rfl, by go_num, hk1, Lib.hid ⟨HD.out, HX.out.keep rfl, below_drewN (Below.refl _ _) _⟩⟩
    case round =>
      obtain ⟨i, j, ys, rfl, rfl, hj, HI⟩ := hrel
      have hi0 : (0 : Int) ≤ (i : Int) := Int.natCast_nonneg _
      have hj0 : (0 : Int) ≤ (j : Int) := Int.natCast_nonneg _
      have hij := HI.out.1.lt
      by_cases hlt : j < xs.length
      · have hlt' : (j : Int) < (xs.length : Int) := by omega
        have hilt : (i : Int) < (xs.length : Int) := by omega
        have hcj := HI.out.2.1.cell (k := j) (by rw [HI.out.1.len]; exact hlt)
        rw [HI.out.1.back j (Nat.le_refl _)] at hcj
        have hci := HI.out.2.1.cell (k := i) (by rw [HI.out.1.len]; omega)
        have hfi := HI.out.2.1.frozen i
        have hcall := HP.out wr (xs.getD j 0) 0 (HOK.out j hlt)
        have HKEEP := Lib.hid (fun h => HI.out.1.keep hlt h)
        have HSKIP := Lib.hid (fun h => HI.out.1.skip hlt h)
        have HSET := Lib.hid (fun z => HI.out.2.1.set (k := i) (by rw [HI.out.1.len]; omega) z)
        generalize xs.getD j 0 = z at *
        generalize ys.getD i 0 = y at *
        cases hq : p z with
        | true =>
          rw [hq] at hcall
          have HC := Lib.hid hcall
          have HN := Lib.hid (HSKIP.out hq)
          clear hcall hq
          go_wp2_with (go_at_fn fn; (refine HC.out.mono ?_); rintro e w' ⟨rfl, q', rfl⟩)
          go_roundw
          case rel => exact ⟨i, j + 1, ys, rfl, by go_num, by omega, Lib.hid ⟨HN.out, HI.out.2.1.keep rfl, below_drewN HI.out.2.2 _⟩⟩
          case measure => simp [intOf]; omega
        | false =>
          rw [hq] at hcall
          have HC := Lib.hid hcall
          have HN := Lib.hid (HKEEP.out hq)
          clear hcall hq
          go_wp2_with (go_at_fn fn; (refine HC.out.mono ?_); rintro e w' ⟨rfl, q', rfl⟩)
          go_roundw
          case rel => exact ⟨i + 1, j + 1, ys.set i z, by go_num, by go_num, by omega, Lib.hid ⟨HN.out, by first | exact (HSET.out z).keep rfl | exact HSET.out z, by first | exact below_drewN (HI.out.2.2.setCell (p := ⟨g, i, none⟩) hg _) _ | exact HI.out.2.2.setCell (p := ⟨g, i, none⟩) hg _⟩⟩
          case measure => simp [intOf]; omega
      · obtain rfl : j = xs.length := by omega
        have hylen := HI.out.1.len
        have hfr := HI.out.1.front
        rw [List.take_length] at hfr
        have HFR := Lib.hid hfr
        have hcl : ∀ ty, (Builtin.clear_ #[25] ty #[.slice (some ⟨g, i, none⟩) (xs.length - i) (c - i)]).run Try.prog wr = .ok (.tuple #[]) (wr.setCells g i (List.replicate (xs.length - i) (.int .i64 0))) := fun ty =>
          Lib.run_clear_slice wr _ _ ty _ Try.underlying25 zero3 rfl rfl g i _ _ (by omega) (fun t ht => by rw [HI.out.2.1.cell (k := i + t) (by rw [hylen]; omega)]; rfl) (fun t ht => HI.out.2.1.frozen _)
        have HRES : Hid (IntsAt (wr.setCells g i (List.replicate (xs.length - i) (.int .i64 0))) (.slice (some ⟨g, 0, none⟩) i c) (ys.take i)) := Lib.hid (by
          have hti : (ys.take i).length = i := by rw [List.length_take, hylen]; omega
          refine ⟨⟨_, i, c, rfl, by rw [length_ints, hti], by omega, by unfold maxLen; omega, fun _ => ⟨g, 0, rfl, fun m v hv => ?_⟩⟩, fun z hz => ?_⟩
          · have hm : m < i := by
              have := (List.getElem?_eq_some_iff.1 hv).1
              rw [length_ints, hti] at this
              exact this
            rw [World.cell?_setCells_out g _ i wr ⟨g, 0 + m, none⟩ (fun _ _ => .inl (by show 0 + m < i; omega)), Nat.zero_add, HI.out.2.1.cell (k := m) (by rw [hylen]; omega), ← hv]
            have hmy : m < ys.length := by omega
            simp [ints, hm, hmy, List.getD_eq_getElem?_getD]
          · rw [HFR.out] at hz
            exact HF.out z (List.mem_filter.1 hz).1)
        have HB : Hid (Below base w (wr.setCells g i (List.replicate (xs.length - i) (.int .i64 0)))) := Lib.hid (HI.out.2.2.trans (Lib.below_setCells_w hg _ _ _))
        clear hylen hfr
        have hilt : (i : Int) < (xs.length : Int) := by omega
        have hic : (i : Int) ≤ (c : Int) := by omega
        have hcap : ¬ c = i := by omega
        go_wp2_with fail
        go_ret
        exact ⟨⟨_, rfl, by rw [← HFR.out]; exact HRES.out⟩, HB.out⟩
end Go.Proofs
namespace Go.Proofs
open Go.RowKit Go.Shelf Go.Proofs.Sm
theorem smith11_own (w : World) (n : Int) (v : Value) (l : List (List Int)) (h : Tab w v l) {d : List Int} {u vv : Mat} {er : Int} (hE : SmE n l d u vv er) : Calls Try.prog 11 #[.int .i64 n, v] w (SmithPostD d u vv er w) := by
  rcases hE with ⟨h1, rfl, rfl, rfl, rfl⟩ | ⟨h1, h2⟩
  · exact smith_no w n v l h h1
  · obtain ⟨hn1, -, -, -⟩ := valid_of_check h1
    obtain ⟨k, rfl⟩ : ∃ k : Nat, n = (k : Int) := ⟨n.toNat, by omega⟩
    rw [Int.toNat_natCast] at h2
    rcases h2 with ⟨ho, rfl, rfl, rfl, rfl⟩ | ⟨s, ho, rfl, rfl, rfl, rfl⟩
    · exact smith_over w k v l h h1 none ho
    · exact smith_over w k v l h h1 (some s) ho
theorem smith11_any (w : World) (n : Int) (v : Value) (l : List (List Int)) (h : Tab w v l) {d : List Int} {u vv : Mat} {er : Int} (hE : SmE n l d u vv er) : Calls Try.prog 11 #[.int .i64 n, v] w (SmithPost d u vv er w) :=
  (smith11_own w n v l h hE).mono fun _ _ ⟨⟨vd, vu, vv, h1, h2, h3, h4, _⟩, hb⟩ => ⟨⟨vd, vu, vv, h1, h2, h3, h4⟩, hb⟩
theorem eg40 : ∀ args w, (callFunc 40 args).run Try.prog w = .ok (.enter 40 args) w := enters_of Try.func40 (by kernel_rfl) rfl
theorem pred40 (W : World) : PredW 40 #[] (fun _ => True) (fun x => x == 1) W := fun x q _ => by
  show Calls Try.prog 40 #[.int .i64 x] (W.drewN q) _
  go_enter Try.func40, Try.ntmps40
  go_wp2_with fail
  go_ret
  exact ⟨rfl, q, rfl⟩
theorem delete39_own (base : Nat) (w : World) (v : Value) (xs : List Int) (h : OwnI base w v xs) (_hbw : base ≤ w.heap.size) (hf : Fits xs) :
    Calls Try.prog 39 #[v, .func (.func 40) #[] #[]] w (DelPost (xs.filter fun x => !(x == 1)) base w) := by
  obtain ⟨A, c, rfl⟩ := owns_form h
  rcases Nat.eq_zero_or_pos xs.length with h0 | h0
  · obtain rfl : xs = [] := List.length_eq_zero_iff.1 h0
    have hI : IntsAt w (.slice A 0 c) [] := OwnI.ints h hf
    have HIDX := Lib.hid (idx60_at 40 #[] (fun _ => True) (fun x => x == 1) w eg40 (pred40 w) (.slice A 0 c) [] hI (fun _ _ => trivial))
    have HI := Lib.hid hI
    clear h hI h0
    show Calls Try.prog 39 #[.slice A 0 c, .func (.func 40) #[] #[]] w _
    go_enter Try.func39, Try.ntmps39
    go_wp2_with fail
    refine HIDX.out.mono ?_
    rintro e w1 ⟨hidx, q, rfl⟩
    rcases hidx with ⟨rfl, -⟩ | ⟨k, -, hk, -⟩
    · go_wp2_with fail
      go_ret
      exact ⟨⟨_, rfl, HI.out.drewN _⟩, below_drewN (Below.refl _ _) _⟩
    · exact absurd hk (Nat.not_lt_zero _)
  · obtain ⟨g, rfl, hx, hg, hc1, hc2⟩ := owns_xs h h0
    exact delete39_any base 40 (fun _ => True) (fun x => x == 1) w eg40 pred40 g c xs hx hg hc1 hc2 hf (fun _ _ => trivial)
/-- what Group returns -/
def GrE (n : Int) (l : Mat) (t : List Int) (free er : Int) : Prop := ∃ d u v e, SmE n l d u v e ∧ ((e ≠ 0 ∧ t = [] ∧ free = 0 ∧ er = e) ∨ (e = 0 ∧ t = (d.filter fun x => !(x == 1)) ∧ free = n - d.length ∧ er = 0))
theorem smE_bd {n : Int} {l : Mat} {d : List Int} {u v : Mat} (h : SmE n l d u v 0) : 1 ≤ n ∧ n ≤ 16 ∧ d.length ≤ 16 := by
  rcases h with ⟨h1, -, -, -, h2⟩ | ⟨h1, h2⟩
  · exact absurd h2.symm h1
  · obtain ⟨a, b, c, hv⟩ := valid_of_check h1
    rcases h2 with ⟨-, -, -, -, h3⟩ | ⟨s, ho, rfl, -, -, -⟩
    · omega
    · have := (out_end hv ho).tn
      rw [length_diagOf]
      exact ⟨a, b, by omega⟩
def GroupPost (t : List Int) (free er : Int) (w : World) (e : Ending) (w' : World) : Prop := (∃ v, e = .returned (.tuple #[v, .int .i64 free, .int .i64 er]) ∧ IntsAt w' v t) ∧ Below w.heap.size w w'
set_option maxRecDepth 100000 in
set_option maxHeartbeats 1000000 in
theorem group13_any (w : World) (n : Int) (v : Value) (l : List (List Int)) (h : Tab w v l) {t : List Int} {free er : Int} (hE : GrE n l t free er) : Calls Try.prog 13 #[.int .i64 n, v] w (GroupPost t free er w) := by
  obtain ⟨d, u, vv, e, hS, hcase⟩ := hE
  have HS := Lib.hid (smith11_any w n v l h hS)
  obtain ⟨A0, c0, rfl, -, -, -⟩ := h.open_
  clear h
  rcases hcase with ⟨h0, rfl, rfl, rfl⟩ | ⟨rfl, rfl, rfl, rfl⟩
  · have hd : (er != 0) = true := by simpa using h0
    clear hS h0
    go_enter Try.func13, Try.ntmps13
    go_wp2_with (go_at_call 11; (refine HS.out.mono ?_); rintro e w1 ⟨⟨vd, vu, vv, rfl, hd, hu, hv⟩, hb⟩; obtain ⟨Ad, cd, rfl, -, -, -⟩ := hd.open_; obtain ⟨Au, cu, rfl, -, -, -⟩ := LAt.open_ hu; obtain ⟨Av, cv, rfl, -, -, -⟩ := LAt.open_ hv; have HB := Lib.hid hb; clear hd hu hv hb)
    go_ret3
    exact ⟨⟨_, rfl, intsAt_nil⟩, HB.out⟩
  · obtain ⟨b1, b2, b3⟩ := smE_bd hS
    clear hS
    have hdl : (d.length : Int) ≤ 16 := by omega
    go_enter Try.func13, Try.ntmps13
    go_wp2_with fail
    refine HS.out.mono ?_
    rintro e w1 ⟨⟨vd, vu, vv', rfl, hd, hu, hv⟩, hb⟩
    obtain ⟨Ad, cd, rfl, -, -, -⟩ := id hd.open_
    obtain ⟨Au, cu, rfl, -, -, -⟩ := LAt.open_ hu
    obtain ⟨Av, cv, rfl, -, -, -⟩ := LAt.open_ hv
    have HCL := Lib.hid (clone34_any w1 (.slice Ad d.length cd) d hd (by omega))
    have HDF := Lib.hid hd.2
    have HB := Lib.hid hb
    clear hd hu hv hb
    go_wp2_with (first
      | (go_at_call 34; (refine HCL.out.mono ?_); rintro e w2 ⟨A2, c2, rfl, ho2, hb2⟩; have HDEL := Lib.hid (delete39_own w1.heap.size w2 _ d ho2 hb2.size HDF.out); have HB2 := Lib.hid (HB.out.trans (hb2.mono HB.out.size)); clear ho2 hb2)
      | (go_at_call 39; (refine HDEL.out.mono ?_); rintro e w3 ⟨⟨vt, rfl, ht⟩, hb3⟩; obtain ⟨At, ct, rfl, -, -, -⟩ := id ht.open_; have HT := Lib.hid ht; have HB3 := Lib.hid (HB2.out.trans (hb3.mono HB.out.size)); clear ht hb3))
    go_ret3
    exact ⟨⟨_, rfl, HT.out⟩, HB3.out⟩
end Go.Proofs
namespace Go.Proofs
open Go.RowKit Go.Shelf Go.Proofs.Sm
set_option maxRecDepth 100000 in
set_option maxHeartbeats 400000 in
theorem same17_any (w : World) (va vb : Value) (x y : List Int) (ha : IntsAt w va x) (hb : IntsAt w vb y) :
    Calls Try.prog 17 #[va, vb] w fun e w' => e = .returned (.bool (decide (x = y))) ∧ ∃ q, w' = w.drewN q := by
  obtain ⟨A3, c3, rfl, hd1, hd2, hd⟩ := ha.open_
  obtain ⟨A4, c4, rfl, he1, he2, he⟩ := hb.open_
  have HD := Lib.hid hd
  have HE := Lib.hid he
  clear ha hb hd he
  have HN := Lib.hid (fun (h : x.length ≠ y.length) (e : x = y) => h (by rw [e]))
  by_cases hxy : x.length = y.length
  · have d3 : ((x.length : Int) != (y.length : Int)) = false := by simp; omega
    have d4 : (x.length != y.length) = false := by simp; omega
    have HX := Lib.hid hxy
    clear hxy
    go_enter Try.func17, Try.ntmps17
    go_wp2_with fail
    go_loopw [5] (fun i wr => ∃ j : Nat, j ≤ x.length ∧ i = .int .i64 j ∧ (∀ t, t < j → x.getD t 0 = y.getD t 0) ∧ ∃ q, wr = w.drewN q) (fun i _ => x.length - (intOf i).toNat)
    case atStart => exact ⟨0, Nat.zero_le _, rfl, fun j hj => absurd hj (by omega), 0, rfl⟩
    case round =>
      obtain ⟨j, hj, rfl, hzj, qj, rfl⟩ := hrel
      have HZJ := Lib.hid hzj
      clear hzj
      by_cases hjl : j < x.length
      · obtain ⟨b3, o3, rfl, hx⟩ := HD.out (by omega)
        obtain ⟨b4, o4, rfl, hy⟩ := HE.out (by rw [← HX.out]; omega)
        have hx1 := hx j hjl
        have hy1 := hy j (by rw [← HX.out]; omega)
        have hj0 : (0 : Int) ≤ (j : Int) := Int.natCast_nonneg _
        have hjb : (j : Int) < (y.length : Int) := by rw [← HX.out]; omega
        have hja : (j : Int) < (x.length : Int) := by omega
        have HM := Lib.hid (fun h => getD_ne (A := x) (B := y) (d := 0) (k := j) h)
        clear hx hy
        generalize hse : x.getD j 0 = s at *
        generalize hte : y.getD j 0 = t at *
        have HSE := Lib.hid hse
        have HTE := Lib.hid hte
        clear hse hte
        by_cases hst : s = t
        · have d5 : (s != t) = false := by simpa using hst
          have HS := Lib.hid hst
          clear hst
          go_wp2_with fail
          go_quiet (fail)
          go_wp2_with fail
          go_roundw
          case rel => exact ⟨j + 1, by omega, by go_num, all_succ HZJ.out (by rw [HSE.out, HTE.out]; exact HS.out), (by first | exact ⟨_, rfl⟩ | exact ex_drewN)⟩
          case measure => simp [intOf]; omega
        · have d5 : (s != t) = true := by simpa using hst
          have HS := Lib.hid hst
          clear hst
          go_wp2_with fail
          go_quiet (fail)
          go_wp2_with fail
          go_ret
          exact ⟨ret_bool (by simpa using HM.out HS.out), (by first | exact ⟨_, rfl⟩ | exact ex_drewN)⟩
      · obtain rfl : j = x.length := by omega
        go_wp2_with fail
        go_ret
        exact ⟨ret_bool (by simpa using getD_ext HX.out HZJ.out), (by first | exact ⟨_, rfl⟩ | exact ex_drewN)⟩
  · have d3 : ((x.length : Int) != (y.length : Int)) = true := by simp; omega
    have d4 : (x.length != y.length) = true := by simp; omega
    have HX := Lib.hid hxy
    clear hxy
    go_enter Try.func17, Try.ntmps17
    go_wp2_with fail
    go_ret
    exact ⟨ret_bool (by simpa using HN.out HX.out), 0, rfl⟩
theorem quiet_more {P : Program} {f : FuncId} {args : Array Value} {w : World} {a n : Nat} {v : Value}
    (h : Calls P f args (w.drewN (a + n)) fun e w' => e = .returned v ∧ ∃ q, w' = (w.drewN (a + n)).drewN q) :
    Calls P f args (w.drewN (a + n)) fun e w'' => e = .returned v ∧ ∃ m, w'' = w.drewN (a + m) :=
  h.mono fun _ _ ⟨he, q, hq⟩ => ⟨he, n + q, by rw [hq, World.drewN_drewN, Nat.add_assoc]⟩
theorem quiet_more0 {P : Program} {f : FuncId} {args : Array Value} {w : World} {n : Nat} {v : Value}
    (h : Calls P f args (w.drewN n) fun e w' => e = .returned v ∧ ∃ q, w' = (w.drewN n).drewN q) :
    Calls P f args (w.drewN n) fun e w'' => e = .returned v ∧ ∃ m, w'' = w.drewN m :=
  h.mono fun _ _ ⟨he, q, hq⟩ => ⟨he, n + q, by rw [hq, World.drewN_drewN]⟩
set_option maxRecDepth 100000 in
set_option maxHeartbeats 400000 in
theorem sameLists18_any (w : World) (va vb : Value) (A B : List (List Int)) (ha : Tab w va A) (hb : Tab w vb B) :
    Calls Try.prog 18 #[va, vb] w fun e w' => e = .returned (.bool (decide (A = B))) ∧ ∃ q, w' = w.drewN q := by
  obtain ⟨A0, ca, rfl, ha1, ha2, ha3⟩ := ha.open_
  obtain ⟨B0, cb, rfl, hb1, hb2, hb3⟩ := hb.open_
  have HA := Lib.hid ha3
  have HB := Lib.hid hb3
  clear ha hb ha3 hb3
  by_cases hl : A.length = B.length
  · have d1 : ((A.length : Int) != (B.length : Int)) = false := by simp; omega
    have d2 : (A.length != B.length) = false := by simp; omega
    have HL := Lib.hid hl
    clear hl
    go_enter Try.func18, Try.ntmps18
    go_wp2_with fail
    go_loopw [5] (fun i wr => ∃ k : Nat, k ≤ A.length ∧ i = .int .i64 k ∧ (∀ j, j < k → A.getD j [] = B.getD j []) ∧ ∃ q, wr = w.drewN q) (fun i _ => A.length - (intOf i).toNat)
    case atStart => exact ⟨0, Nat.zero_le _, rfl, fun j hj => absurd hj (by omega), 0, rfl⟩
    case round =>
      obtain ⟨k, hk, rfl, hz, q, rfl⟩ := hrel
      have HZ := Lib.hid hz
      clear hz
      by_cases hlt : k < A.length
      · obtain ⟨b1, o1, rfl, hc1⟩ := HA.out (by omega)
        obtain ⟨b2, o2, rfl, hc2⟩ := HB.out (by rw [← HL.out]; omega)
        obtain ⟨u1, hu1, hr1⟩ := hc1 k hlt
        obtain ⟨u2, hu2, hr2⟩ := hc2 k (by rw [← HL.out]; omega)
        obtain ⟨A3, c3, rfl, -, -, -⟩ := id hr1.open_
        obtain ⟨A4, c4, rfl, -, -, -⟩ := id hr2.open_
        have hk0 : (0 : Int) ≤ (k : Int) := Int.natCast_nonneg _
        have hkb : (k : Int) < (B.length : Int) := by rw [← HL.out]; omega
        have hka : (k : Int) < (A.length : Int) := by omega
        have HN := Lib.hid (fun h => getD_ne (A := A) (B := B) (d := []) (k := k) h)
        have HSM : Hid (∀ q, Calls Try.prog 17 #[.slice A3 (A.getD k []).length c3, .slice A4 (B.getD k []).length c4] (w.drewN q) fun e w' => e = .returned (.bool (decide (A.getD k [] = B.getD k []))) ∧ ∃ q', w' = (w.drewN q).drewN q') := Lib.hid fun q => same17_any (w.drewN q) _ _ _ _ (hr1.drewN q) (hr2.drewN q)
        generalize hxe : A.getD k [] = x at *
        generalize hye : B.getD k [] = y at *
        have HXE := Lib.hid hxe
        have HYE := Lib.hid hye
        clear hxe hye hc1 hc2 hr1 hr2
        by_cases hxy : x = y
        · have hd : decide (x = y) = true := decide_eq_true hxy
          rw [hd] at HSM
          have HXY := Lib.hid hxy
          clear hxy hd
          generalize x.length = lx at *
          generalize y.length = ly at *
          go_wp2_with fail
          go_quiet ((go_at_call 17; first | exact quiet_more (HSM.out _) | exact quiet_more0 (HSM.out _)))
          go_wp2_with fail
          go_roundw
          case rel => exact ⟨k + 1, by omega, by go_num, all_succ HZ.out (by rw [HXE.out, HYE.out]; exact HXY.out), (by first | exact ⟨_, rfl⟩ | exact ex_drewN)⟩
          case measure => simp [intOf]; omega
        · have hd : decide (x = y) = false := decide_eq_false hxy
          rw [hd] at HSM
          have HXY := Lib.hid hxy
          clear hxy hd
          generalize x.length = lx at *
          generalize y.length = ly at *
          go_wp2_with fail
          go_quiet ((go_at_call 17; first | exact quiet_more (HSM.out _) | exact quiet_more0 (HSM.out _)))
          go_wp2_with fail
          go_ret
          exact ⟨ret_bool (by simpa using HN.out HXY.out), (by first | exact ⟨_, rfl⟩ | exact ex_drewN)⟩
      · obtain rfl : k = A.length := by omega
        go_wp2_with fail
        go_ret
        exact ⟨ret_bool (by simpa using getD_ext HL.out HZ.out), _, rfl⟩
  · have d1 : ((A.length : Int) != (B.length : Int)) = true := by simp; omega
    have d2 : (A.length != B.length) = true := by simp; omega
    have HL := Lib.hid hl
    clear hl
    go_enter Try.func18, Try.ntmps18
    go_wp2_with fail
    go_ret
    exact ⟨ret_bool (by simpa using fun e => HL.out (by rw [e])), 0, rfl⟩
theorem row32_any (w : World) (A : Option Addr) (n c : Nat) : Calls Try.prog 32 #[.slice A n c] w fun e w' => e = .returned (.slice A n c) ∧ w = w' := by
  go_enter Try.func32, Try.ntmps32
  go_wp2_with fail
  go_ret
  exact ⟨rfl, rfl⟩
end Go.Proofs
namespace Go.Proofs.Sm
theorem out_two : Out 2 [[2, 4], [6, 8]] (some ⟨[[2, 0], [0, 4]], [[1, 0], [3, -1]], [[1, -2], [0, 1]], 2⟩) := ⟨20, by rfl⟩
theorem out_six : Out 2 [[6, 0], [0, 4]] (some ⟨[[2, 0], [0, 12]], [[1, 1], [2, 3]], [[1, -2], [-1, 3]], 2⟩) := ⟨20, by rfl⟩
end Go.Proofs.Sm
namespace Go.Proofs
open Go.RowKit Go.Shelf Go.Proofs.Sm
theorem is30_true (w : World) (va vb : Value) (x : List Int) (free : Int) (ha : IntsAt w va x) (hb : IntsAt w vb x) :
    Calls Try.prog 30 #[va, .int .i64 free, .int .i64 0, .int .i64 free, vb] w fun e w' => e = .returned (.bool true) ∧ ∃ q, w' = w.drewN q := by
  have hs := same17_any w va vb x x ha hb
  rw [decide_eq_true rfl] at hs
  have HS := Lib.hid hs
  have hd : (free == free) = true := by simp
  obtain ⟨A3, c3, rfl, -, -, -⟩ := ha.open_
  obtain ⟨A4, c4, rfl, -, -, -⟩ := hb.open_
  clear ha hb hs
  generalize x.length = lx at *
  go_enter Try.func30, Try.ntmps30
  go_wp2_with (go_at_call 17; (refine HS.out.mono ?_); rintro e w' ⟨rfl, q, rfl⟩)
  go_ret
  exact ⟨rfl, _, rfl⟩
/-- two numbers in a block just laid -/
theorem ints_two {w : World} {B : Nat} {a b : Int} (h : w.heap[B]? = some (.cells #[.int .i64 a, .int .i64 b] 3 (0, 0))) (ha : In64 a) (hb : In64 b) : IntsAt w (.slice (some ⟨B, 0, none⟩) 2 2) [a, b] := by
  refine ⟨⟨_, 2, 2, rfl, rfl, Nat.le_refl _, by simp [maxLen], fun _ => ⟨B, 0, rfl, fun j v hv => ?_⟩⟩, fun z hz => ?_⟩
  · rw [cell_of_row _ _ _ _ _ _ h, Nat.zero_add, ← hv]
    have : j = 0 ∨ j = 1 := by
      have := (List.getElem?_eq_some_iff.1 hv).1
      simp [ints] at this; omega
    rcases this with rfl | rfl <;> rfl
  · rcases List.mem_cons.1 hz with rfl | hz
    · exact ha
    · rcases List.mem_cons.1 hz with rfl | hz
      · exact hb
      · cases hz
/-- two rows in a block just laid -/
theorem tab_two {w : World} {B : Nat} {u v : Value} {x y : List Int} (h : w.heap[B]? = some (.cells #[u, v] 25 (0, 0))) (hu : IntsAt w u x) (hv : IntsAt w v y) : Tab w (.slice (some ⟨B, 0, none⟩) 2 2) [x, y] := by
  refine ⟨[u, v], ⟨_, 2, 2, rfl, rfl, Nat.le_refl _, by simp [maxLen], fun _ => ⟨B, 0, rfl, fun j z hz => ?_⟩⟩, rfl, fun i hi => ?_⟩
  · rw [cell_of_row _ _ _ _ _ _ h, Nat.zero_add]
    simpa using hz
  · have : i = 0 ∨ i = 1 := by simp at hi; omega
    rcases this with rfl | rfl
    · exact ⟨u, rfl, hu⟩
    · exact ⟨v, rfl, hv⟩
/-- a literal of two rows of two numbers -/
def lit22 (w : World) (a b c e : Int) : World := ((w.alloc (.cells #[.int .i64 a, .int .i64 b] 3)).alloc (.cells #[.int .i64 c, .int .i64 e] 3)).alloc (.cells #[.slice (some ⟨w.heap.size, 0, none⟩) 2 2, .slice (some ⟨w.heap.size + 1, 0, none⟩) 2 2] 25)
theorem lit22_below (w : World) (a b c e : Int) : Below w.heap.size w (lit22 w a b c e) := (((Below.refl _ _).alloc (Nat.le_refl _) _).alloc (by simp) _).alloc (by simp; omega) _
theorem lit22_tab (w : World) {a b c e : Int} (ha : In64 a) (hb : In64 b) (hc : In64 c) (he : In64 e) : Tab (lit22 w a b c e) (.slice (some ⟨w.heap.size + 1 + 1, 0, none⟩) 2 2) [[a, b], [c, e]] := by
  have h0 := heap_alloc_new w (.cells #[.int .i64 a, .int .i64 b] 3)
  have h1 := heap_alloc_new (w.alloc (.cells #[.int .i64 a, .int .i64 b] 3)) (.cells #[.int .i64 c, .int .i64 e] 3)
  rw [World.size_alloc] at h1
  have k1 := (Below.refl (w.alloc (.cells #[.int .i64 a, .int .i64 b] 3)).heap.size (w.alloc (.cells #[.int .i64 a, .int .i64 b] 3))).alloc (Nat.le_refl _) (.cells #[.int .i64 c, .int .i64 e] 3)
  have k2 := (Below.refl ((w.alloc (.cells #[.int .i64 a, .int .i64 b] 3)).alloc (.cells #[.int .i64 c, .int .i64 e] 3)).heap.size ((w.alloc (.cells #[.int .i64 a, .int .i64 b] 3)).alloc (.cells #[.int .i64 c, .int .i64 e] 3))).alloc (Nat.le_refl _) (.cells #[.slice (some ⟨w.heap.size, 0, none⟩) 2 2, .slice (some ⟨w.heap.size + 1, 0, none⟩) 2 2] 25)
  have h2 := heap_alloc_new ((w.alloc (.cells #[.int .i64 a, .int .i64 b] 3)).alloc (.cells #[.int .i64 c, .int .i64 e] 3)) (.cells #[.slice (some ⟨w.heap.size, 0, none⟩) 2 2, .slice (some ⟨w.heap.size + 1, 0, none⟩) 2 2] 25)
  rw [World.size_alloc, World.size_alloc] at h2
  rw [World.size_alloc] at k1
  rw [World.size_alloc, World.size_alloc] at k2
  exact tab_two h2 (ints_two ((k2.block _ (by omega)).trans ((k1.block _ (by omega)).trans h0)) ha hb) (ints_two ((k2.block _ (by omega)).trans h1) hc he)
theorem smE_two : SmE 2 [[2, 4], [6, 8]] [2, 4] [[1, 0], [3, -1]] [[1, -2], [0, 1]] 0 := .inr ⟨by decide, .inr ⟨_, out_two, rfl, rfl, rfl, rfl⟩⟩
theorem grE_six : GrE 2 [[6, 0], [0, 4]] [2, 12] 0 0 := ⟨[2, 12], _, _, 0, .inr ⟨by decide, .inr ⟨_, out_six, rfl, rfl, rfl, rfl⟩⟩, .inr ⟨rfl, rfl, rfl, rfl⟩⟩
theorem in64_small {x : Int} (h : -1000 ≤ x ∧ x ≤ 1000) : In64 x := by unfold In64; omega
set_option maxRecDepth 100000 in
set_option maxHeartbeats 1000000 in
theorem lives9_any (w : World) : Calls Try.prog 9 #[] w fun e w' => e = .returned (.bool true) ∧ Below w.heap.size w w' := by
  have HS := Lib.hid (smith11_any (lit22 w 2 4 6 8) 2 _ _ (lit22_tab w (in64_small (by omega)) (in64_small (by omega)) (in64_small (by omega)) (in64_small (by omega))) smE_two)
  have HG : Hid (∀ W, Calls Try.prog 13 #[.int .i64 2, .slice (some ⟨W.heap.size + 1 + 1, 0, none⟩) 2 2] (lit22 W 6 0 0 4) (GroupPost [2, 12] 0 0 (lit22 W 6 0 0 4))) := Lib.hid fun W => group13_any (lit22 W 6 0 0 4) 2 _ _ (lit22_tab W (in64_small (by omega)) (in64_small (by omega)) (in64_small (by omega)) (in64_small (by omega))) grE_six
  have HR := Lib.hid row32_any
  have HB0 := Lib.hid (lit22_below w 2 4 6 8)
  unfold lit22 at HS HG
  go_enter Try.func9, Try.ntmps9
  go_wp2_with (first
    | (go_at_call 11; (refine HS.out.mono ?_); rintro e w1 ⟨⟨vd, vu, vv, rfl, hd, hu, hv⟩, hb⟩
       obtain ⟨Ad, cd, rfl, -, -, -⟩ := id hd.open_
       obtain ⟨Au, cu, rfl, -, -, -⟩ := LAt.open_ hu
       obtain ⟨Av, cv, rfl, -, -, -⟩ := LAt.open_ hv
       have HB1 := Lib.hid (HB0.out.trans (hb.mono HB0.out.size))
       have H17 : Hid (∀ W, Below w1.heap.size w1 W → Calls Try.prog 17 #[.slice Ad 2 cd, .slice (some ⟨W.heap.size, 0, none⟩) 2 2] (W.alloc (.cells #[.int .i64 2, .int .i64 4] 3)) fun e w' => e = .returned (.bool true) ∧ Below W.heap.size W w') := Lib.hid fun W hW =>
         (same17_any (W.alloc (.cells #[.int .i64 2, .int .i64 4] 3)) _ _ [2, 4] [2, 4] (kept_ints.below hd (hW.alloc hW.size _)) (ints_two (heap_alloc_new W _) (in64_small (by omega)) (in64_small (by omega)))).mono fun e w' ⟨h1, q, h2⟩ => ⟨h1, by rw [h2]; exact below_drewN ((Below.refl _ _).alloc (Nat.le_refl _) _) q⟩
       have H18u : Hid (∀ W, Below w1.heap.size w1 W → Calls Try.prog 18 #[.slice Au 2 cu, .slice (some ⟨W.heap.size + 1 + 1, 0, none⟩) 2 2] (lit22 W 1 0 3 (-1)) fun e w' => e = .returned (.bool true) ∧ Below W.heap.size W w') := Lib.hid fun W hW =>
         (sameLists18_any (lit22 W 1 0 3 (-1)) _ _ [[1, 0], [3, -1]] [[1, 0], [3, -1]] (kept_tab.below hu (hW.trans ((lit22_below W 1 0 3 (-1)).mono hW.size))) (lit22_tab W (in64_small (by omega)) (in64_small (by omega)) (in64_small (by omega)) (in64_small (by omega)))).mono fun e w' ⟨h1, q, h2⟩ => ⟨h1, by rw [h2]; exact below_drewN (lit22_below W 1 0 3 (-1)) q⟩
       have H18v : Hid (∀ W, Below w1.heap.size w1 W → Calls Try.prog 18 #[.slice Av 2 cv, .slice (some ⟨W.heap.size + 1 + 1, 0, none⟩) 2 2] (lit22 W 1 (-2) 0 1) fun e w' => e = .returned (.bool true) ∧ Below W.heap.size W w') := Lib.hid fun W hW =>
         (sameLists18_any (lit22 W 1 (-2) 0 1) _ _ [[1, -2], [0, 1]] [[1, -2], [0, 1]] (kept_tab.below hv (hW.trans ((lit22_below W 1 (-2) 0 1).mono hW.size))) (lit22_tab W (in64_small (by omega)) (in64_small (by omega)) (in64_small (by omega)) (in64_small (by omega)))).mono fun e w' ⟨h1, q, h2⟩ => ⟨h1, by rw [h2]; exact below_drewN (lit22_below W 1 (-2) 0 1) q⟩
       unfold lit22 at H18u H18v
       clear hd hu hv hb)
    | (go_at_call 13; (refine (HG.out _).mono ?_); rintro e w2 ⟨⟨vt, rfl, ht⟩, hb⟩
       obtain ⟨At, ct, rfl, -, -, -⟩ := id ht.open_
       have HB2 := Lib.hid ((lit22_below w1 6 0 0 4).trans (hb.mono (lit22_below w1 6 0 0 4).size))
       have H30 : Hid (∀ W, Below w2.heap.size w2 W → Calls Try.prog 30 #[.slice At 2 ct, .int .i64 0, .int .i64 0, .int .i64 0, .slice (some ⟨W.heap.size, 0, none⟩) 2 2] (W.alloc (.cells #[.int .i64 2, .int .i64 12] 3)) fun e w' => e = .returned (.bool true) ∧ Below W.heap.size W w') := Lib.hid fun W hW =>
         (is30_true (W.alloc (.cells #[.int .i64 2, .int .i64 12] 3)) _ _ [2, 12] 0 (kept_ints.below ht (hW.alloc hW.size _)) (ints_two (heap_alloc_new W _) (in64_small (by omega)) (in64_small (by omega)))).mono fun e w' ⟨h1, q, h2⟩ => ⟨h1, by rw [h2]; exact below_drewN ((Below.refl _ _).alloc (Nat.le_refl _) _) q⟩
       clear ht hb)
    | (go_at_call 32; (refine (HR.out _ _ _ _).mono ?_); rintro e w' ⟨rfl, rfl⟩)
    | (go_at_call 17; (refine (H17.out w2 HB2.out).mono ?_); rintro e w3 ⟨rfl, hb⟩; have HB3 := Lib.hid hb; clear hb)
    | (go_at_call 18; (with_reducible refine (H18u.out w3 (HB2.out.trans (HB3.out.mono HB2.out.size))).mono ?_); rintro e w4 ⟨rfl, hb⟩; have HB4 := Lib.hid (HB3.out.trans (hb.mono HB3.out.size)); clear hb)
    | (go_at_call 18; (with_reducible refine (H18v.out w4 (HB2.out.trans (HB4.out.mono HB2.out.size))).mono ?_); rintro e w5 ⟨rfl, hb⟩; have HB5 := Lib.hid (HB4.out.trans (hb.mono HB4.out.size)); clear hb)
    | (go_at_call 30; (refine (H30.out w5 HB5.out).mono ?_); rintro e w6 ⟨rfl, hb⟩; have HB6 := Lib.hid (HB5.out.trans (hb.mono HB5.out.size)); clear hb))
  go_ret
  exact ⟨rfl, HB1.out.trans ((HB2.out.trans (HB6.out.mono HB2.out.size)).mono HB1.out.size)⟩
end Go.Proofs
