/- The walk of TopPresent; Arguments opened: lists of numbers, tables, presentations; Closed facts of the program (A); Closed facts of the program (B); Closed facts of the program (C); Closed facts of the program (D); The closed facts of a statement, one by one. -/
import Derived.Test.YtmpnengjboabcaaTpCS21
import Derived.Test.YtmpnengjboabcaaTpCS12
import Derived.Test.YtmpnengjboabcaaTpCS5
import Derived.ProofKit
import Derived.Deep.Slices
import Derived.Deep.Strs
import Derived.Test.YtmpnengjboabcaaRows
import Derived.Test.YtmpnengjboabcaaChecked
import Derived.OpenShut
import Derived.JoinedOf
namespace Go.Proofs
open Go.RowKit Go.Shelf Go.Proofs.Ct Go.Maps
theorem wds_topW {g : Nat} (hg : 1 ≤ g) (l : List Int) : Wds g (topW g l) 2 8 := by
  refine wds_of_mem (by unfold topW; rw [List.length_take]; omega) fun w hw => ?_
  exact mem_wordsTo hg _ _ w (List.mem_of_mem_take hw)
structure TopL (g N : Nat) (rels sub : List W) (T : Tb) (d1 k1 e1 : Int) : Prop where
  g1 : 1 ≤ g
  g3 : g ≤ 3
  wrel : Wds g rels 6 60
  wsub : Wds g sub 2 8
  enum : enumE g rels sub 2000 = (T, (d1, k1), e1)
  tl : T.length ≤ 2000
  nn : N ≤ 1000
  cases : e1 = 12 ∨ (e1 = 0 ∧ 1 ≤ T.length ∧ (∃ q, N = T.length * q) ∧ ∃ m q f U d k h, PresL N g rels T m q f U d k h)
theorem top_all (x : Int) (l : List Int) : ∃ (g N : Nat) (T : Tb) (d1 k1 e1 : Int), (knownE (topK x)).1 = (g : Int) ∧ (knownE (topK x)).2.2 = (N : Int) ∧ TopL g N (knownE (topK x)).2.1 (topW g l) T d1 k1 e1 := by
  have h1 := mod14 (topK x)
  obtain ⟨g', n, k1, k2, k3⟩ := known_reg _ h1
  obtain ⟨g, k4, k5, k6, k7⟩ := known_wds (known_all _ h1)
  have e1 : g' = g := by omega
  subst e1
  have h5 := wds_topW k5 l
  have hp := k7.pres ⟨k5, by omega⟩ (by omega) (by omega)
  have hn : n ≤ 1000 := by
    obtain ⟨_, _, h, _⟩ := k3
    exact h
  have e2 : knownE (topK x) = knownT (topK x % 14).toNat := rfl
  rw [← e2] at k1 k2 k3 k7 hp
  rcases enum_cases (lim := 2000) ⟨k5, by omega⟩ hp k7.ok h5.ok (fun lim' a b => h5.good (by omega) (by omega) ⟨a, b⟩) (by omega) with c1 | ⟨t, d, q, c1⟩
  · exact ⟨g', n, [], 0, 0, 12, k1, k2, k5, k6, k7, h5, c1, Nat.zero_le _, hn, .inl rfl⟩
  · obtain ⟨k8, -⟩ := k3.fits ⟨k5, by omega⟩ k7.ok c1.coset
    exact ⟨g', n, t, d, q, 0, k1, k2, k5, k6, k7, h5, c1.is 2000 c1.room (by omega), by have := c1.live; have := c1.most; have := c1.room; omega, hn, .inr ⟨rfl, c1.n1, k8, present_law ⟨k5, by omega⟩ hp k7.ok c1.coset k3⟩⟩
set_option maxRecDepth 100000 in
set_option maxHeartbeats 4000000 in
theorem present14_any (w : World) (x : Int) (vl : Value) (l : List Int) (hl : IntsAt w vl l) :
    Calls Try.prog 14 #[.int .i64 x, vl] w fun e w' => e = .returned (.bool true) ∧ Below w.heap.size w w' := by
  have HL := Lib.hid hl
  obtain ⟨Al, cl, rfl, -, -, -⟩ := hl.open_
  obtain ⟨g, N, T, d1, k1, e1, hg0, hN0, hL⟩ := top_all x l
  have HLL := Lib.hid hL
  have HK : Hid (∀ W, Calls Try.prog 76 #[.int .i64 x] W fun e w' => (∃ A c, e = .returned (.tuple #[.agg #[.int .i64 (g : Int), .slice A (knownE (topK x)).2.1.length c], .int .i64 (N : Int)]) ∧ Tab w' (.slice A (knownE (topK x)).2.1.length c) (knownE (topK x)).2.1) ∧ Below W.heap.size W w') := Lib.hid fun W => by
    have h := known76_any W x
    rw [hg0, hN0] at h
    exact h.mono fun e w' (⟨⟨A, c, h1, h2⟩, h3⟩ : KnownPost _ _ _ W e w') => ⟨⟨A, c, h1, h2.at_⟩, h3⟩
  have HS : Hid (∀ W, Below w.heap.size w W → Calls Try.prog 77 #[.slice Al l.length cl, .int .i64 (g : Int)] W fun e w' => (∃ A c, e = .returned (.slice A (topW g l).length c) ∧ Tab w' (.slice A (topW g l).length c) (topW g l)) ∧ Below W.heap.size W w') := Lib.hid fun W h =>
    (topWords77_any W _ l g (HL.out.below h) ⟨hL.g1, by have := hL.g3; omega⟩).mono fun e w' (⟨⟨A, c, h1, h2⟩, h3⟩ : LawWordsPost _ W e w') => ⟨⟨A, c, h1, h2.at_⟩, h3⟩
  have hg1 : 1 ≤ (g : Int) := by have := hL.g1; omega
  have hg3 : (g : Int) ≤ 3 := by have := hL.g3; omega
  have hN1 : (N : Int) ≤ 1000 := by have := hL.nn; omega
  have hN2 : (0 : Int) ≤ (N : Int) := Int.natCast_nonneg _
  have hT1 : (T.length : Int) ≤ 2000 := by have := hL.tl; omega
  have hT2 : (0 : Int) ≤ (T.length : Int) := Int.natCast_nonneg _
  clear hl hL hg0 hN0 HL
  generalize (knownE (topK x)).2.1 = rels at *
  generalize topW g l = sub at *
  go_enter Try.func14, Try.ntmps14
  go_wp2_with fail
  refine (HK.out _).mono ?_
  rintro e v2 ⟨⟨A2, c2, rfl, ht⟩, hb⟩
  have HB2 := Lib.hid hb
  have HT2 := Lib.hid ht
  clear ht hb
  have HLD := Lib.hid (box40 v2 (.int .i64 (g : Int)) (.slice A2 rels.length c2))
  have hal := (Below.refl v2.heap.size v2).alloc (Nat.le_refl _) (.cells #[.int .i64 (g : Int), .slice A2 rels.length c2] 40)
  have HT3 := Lib.hid (kept_tab.below HT2.out hal)
  have HB3 := Lib.hid (bl3 HB2.out hal)
  have HR3 := Lib.hid (Below.refl (v2.alloc (.cells #[.int .i64 (g : Int), .slice A2 rels.length c2] 40)).heap.size (v2.alloc (.cells #[.int .i64 (g : Int), .slice A2 rels.length c2] 40)))
  clear hal
  go_wp2_with fail
  generalize hw3 : v2.alloc (.cells #[.int .i64 (g : Int), .slice A2 rels.length c2] 40) = v3 at *
  generalize v2.heap.size = B at *
  clear hw3
  refine (HS.out _ HB3.out).mono ?_
  rintro e v4 ⟨⟨A4, c4, rfl, ht⟩, hb⟩
  have HR4 := Lib.hid (bl3 HR3.out hb)
  have HS4 := Lib.hid ht
  have HTR : Hid (∀ W, Below v3.heap.size v3 W → Tab W (.slice A2 rels.length c2) rels) := Lib.hid fun W h => kept_tab.below HT3.out h
  clear ht hb HR3 HS HK HT3 HT2 HB2
  have hws : ∀ j, (sub.getD j []).length ≤ 100000 := fun j => by have := HLL.out.wsub.short j; omega
  have hwl : sub.length ≤ 1000000 := by have := HLL.out.wsub.len; omega
  have H40 := Lib.hid (enumS g rels sub 2000 T d1 k1 e1 HLL.out.enum hws hwl)
  clear hws hwl
  rcases HLL.out.cases with rfl | ⟨rfl, hT0, ⟨qq, hqq⟩, m, q, f, U, d, k, h, hP⟩
  · clear HLL
    go_wp2_with ((with_reducible refine wpList_sel 26 ?_); refine wpList_val rfl (r_loadAt 40 (.tmp 5) _ _ rfl rfl (HLD.out _ HR4.out).1) ?_)
    refine (H40.out _ _ _ (HTR.out _ HR4.out) HS4.out).mono ?_
    rintro e v6 ⟨⟨u6, rfl, ht⟩, hb⟩
    have HB6 := Lib.hid (bl3 HB3.out (bl3 HR4.out hb))
    obtain ⟨A6, c6, rfl⟩ := Tab.form ht
    have HX6 := Lib.hid (HB6.out.alloc HB6.out.size (.cells #[.int .i64 d1, .int .i64 k1, .int .i64 0] 49))
    clear hb ht
    go_wp2_with fail
    go_ret
    exact ⟨rfl, HX6.out⟩
  · have hT0' : 1 ≤ (T.length : Int) := by omega
    have hne : ((T.length : Int) == 0) = false := by rw [beq_eq_false_iff_ne]; omega
    have hne2 : ¬ T.length = 0 := by omega
    have hne3 : ¬ T = [] := fun e => by rw [e] at hT0; exact absurd hT0 (by simp)
    have hrem : (N : Int) % (T.length : Int) = 0 := by rw [hqq]; simp
    have HP := Lib.hid hP
    have H32 : Hid (∀ (W : World) (vr vt : Value), Tab W vr rels → Tab W vt T → Calls Try.prog 32 #[.agg #[.int .i64 (g : Int), vr], vt] W fun e w' => (∃ A c, e = .returned (.tuple #[.agg #[.int .i64 m, .slice A q.length c], .int .i64 f]) ∧ Tab w' (.slice A q.length c) q) ∧ Below W.heap.size W w') := Lib.hid fun W vr vt h1 h2 =>
      (present24_any W vr vt g rels T h1 h2).mono fun e w' (⟨⟨u, h3, h4⟩, h5⟩ : PresentPost g rels T W e w') => by
        rw [hP.is] at h3 h4
        obtain ⟨A, c, rfl⟩ := Tab.form h4
        exact ⟨⟨A, c, h3, h4⟩, h5⟩
    have H40b := Lib.hid (enumS m q [] 2000 U d k h hP.enum (fun j => Nat.zero_le _) (Nat.zero_le _))
    have hU1 : (U.length : Int) ≤ 2000 := by have := hP.ul; omega
    have hU2 : (0 : Int) ≤ (U.length : Int) := Int.natCast_nonneg _
    clear HLL hP hqq hT0
    go_wp2_with ((with_reducible refine wpList_sel 26 ?_); refine wpList_val rfl (r_loadAt 40 (.tmp 5) _ _ rfl rfl (HLD.out _ HR4.out).1) ?_)
    refine (H40.out _ _ _ (HTR.out _ HR4.out) HS4.out).mono ?_
    rintro e v6 ⟨⟨u6, rfl, ht⟩, hb⟩
    obtain ⟨A6, c6, rfl⟩ := Tab.form ht
    have hal := (Below.refl v6.heap.size v6).alloc (Nat.le_refl _) (.cells #[.int .i64 d1, .int .i64 k1, .int .i64 0] 49)
    have HR6 := Lib.hid (bl3 (bl3 HR4.out hb) hal)
    have HT6 := Lib.hid (kept_tab.below ht hal)
    clear hal hb ht H40 HS4 HR4
    go_wp2_with ((with_reducible refine wpList_sel 49 ?_); refine wpList_val rfl (r_loadAt 40 (.tmp 5) _ _ rfl rfl (HLD.out _ HR6.out).1) ?_)
    refine (H32.out _ _ _ (HTR.out _ HR6.out) HT6.out).mono ?_
    rintro e v8 ⟨⟨A8, c8, rfl, ht⟩, hb⟩
    have HR8 := Lib.hid (bl3 HR6.out hb)
    have HT8 := Lib.hid ht
    have HLD2 := Lib.hid (box40 v8 (.int .i64 m) (.slice A8 q.length c8))
    have hal := (Below.refl v8.heap.size v8).alloc (Nat.le_refl _) (.cells #[.int .i64 m, .slice A8 q.length c8] 40)
    have HR9 := Lib.hid (bl3 HR8.out hal)
    have HT9 := Lib.hid (kept_tab.below HT8.out hal)
    clear hal ht hb HR8 HT8 H32
    rcases HP.out.cases with rfl | rfl | ⟨rfl, hm⟩
    · go_wp2_with fail
      go_ret
      exact ⟨rfl, bl3 HB3.out HR9.out⟩
    · go_wp2_with fail
      go_ret
      exact ⟨rfl, bl3 HB3.out HR9.out⟩
    · have hm1 : 0 < m := by omega
      have HRX := Lib.hid (Below.refl (v8.alloc (.cells #[.int .i64 m, .slice A8 q.length c8] 40)).heap.size (v8.alloc (.cells #[.int .i64 m, .slice A8 q.length c8] 40)))
      go_wp2_with ((with_reducible refine wpList_sel 63 ?_); refine wpList_val rfl (r_loadAt 40 (.tmp 11) _ _ rfl rfl (HLD2.out _ HRX.out).1) ?_)
      generalize hw9 : v8.alloc (.cells #[.int .i64 m, .slice A8 q.length c8] 40) = v9 at *
      generalize v8.heap.size = B2 at *
      clear hw9
      refine (H40b.out _ _ _ HT9.out tab_nil).mono ?_
      rintro e v10 ⟨⟨u10, rfl, ht⟩, hb⟩
      obtain ⟨A10, c10, rfl⟩ := Tab.form ht
      have hal := (Below.refl v10.heap.size v10).alloc (Nat.le_refl _) (.cells #[.int .i64 d, .int .i64 k, .int .i64 0] 49)
      have HR11 := Lib.hid (bl3 HR9.out (bl3 hb hal))
      have hcg := (HLD2.out _ (bl3 HRX.out (bl3 hb hal))).2
      clear hal hb ht H40b
      rcases HP.out.fin rfl with rfl | ⟨rfl, hmul⟩
      · clear HP
        go_wp2_with fail
        go_ret
        exact ⟨rfl, bl3 HB3.out HR11.out⟩
      · have hmul' : (U.length : Int) * (T.length : Int) = (N : Int) := by rw [← hmul]; simp
        clear HP hmul
        go_wp2_with fail
        go_ret
        exact ⟨rfl, bl3 HB3.out HR11.out⟩
end Go.Proofs
namespace Go.Proofs
open Go.RowKit Go.ChangeShapes Go.WideShapes Go.ChangeAt Go.Deep
section
variable {H : Type} {enc : TypeId × Value → H} {W : World}
theorem spot_none {a : Addr} {v : Value} (h : W.cell? (a.add 0) = some v) : a = ⟨a.block, a.off, none⟩ := by
  obtain ⟨b, o, s⟩ := a
  cases s with
  | none => rfl
  | some q =>
    exfalso
    have e : ({ block := b, off := o, spot := some q } : Addr).add 0 = { block := b, off := o, spot := some q } := by unfold Addr.add; rw [if_pos rfl]
    rw [e] at h
    unfold World.cell? at h
    simp only [Option.isSome_some, if_true] at h
    split at h <;> cases h
theorem wf_fits {x : Int} (h : (Lit.int .i64 x).wf = true) : -9223372036854775808 ≤ x ∧ x ≤ 9223372036854775807 := by
  simpa [Lit.wf, IntKind.min, IntKind.max, IntKind.signed, IntKind.bits] using h
theorem lat_of_trod {α : Type} {R : World → Value → α → Prop} {d : α} {t e : TypeId} {base fuel : Nat} {spare : Nat → Bool} {held : Bool} {v : Value} {x : DataW H × List MemPlace} (ht : Try.prog.underlying t = some (.slice e)) (hc : Try.prog.cellsOf e = 1)
    (hR : ∀ n u y, DataW.trod enc Try.prog W base spare held n e [u] = some y → ∃ z, R W u z) (h : DataW.trod enc Try.prog W base spare held fuel t [v] = some x) : ∃ xs, LAt R d W v xs := by
  rcases open_slice1 ht hc h with ⟨hv, -⟩ | ⟨a, len, cap, m, n, V, D, Pl, hv, -, hl, hm, hmm, -, hx⟩
  · obtain rfl : v = .slice none 0 0 := by simpa using hv
    exact ⟨[], [], ⟨none, 0, 0, rfl, rfl, Nat.le_refl _, by simp [maxLen], fun h => absurd h (by simp)⟩, rfl, fun i hi => absurd hi (by simp)⟩
  · obtain rfl : v = .slice (some a) len cap := by simpa using hv
    have hlm : len ≤ m := by rw [hmm]; split <;> omega
    have hz : ∀ i, i < len → ∃ z, R W (V i) z := fun i hi => hR n (V i) _ (hx i (by omega)).2
    have hf : ∃ f : Nat → α, ∀ i, i < len → R W (V i) (f i) := by
      have hz' : ∀ i, ∃ z, i < len → R W (V i) z := fun i => by
        by_cases hi : i < len
        · obtain ⟨z, hz⟩ := hz i hi; exact ⟨z, fun _ => hz⟩
        · exact ⟨d, fun h => absurd h hi⟩
      exact ⟨fun i => Classical.choose (hz' i), fun i => Classical.choose_spec (hz' i)⟩
    obtain ⟨f, hf⟩ := hf
    refine ⟨(List.range len).map f, (List.range len).map V, ⟨_, len, cap, rfl, by simp, hl, hm, fun h0 => ?_⟩, by simp, fun i hi => ?_⟩
    · have hsp := spot_none (hx 0 (by omega)).1
      refine ⟨a.block, a.off, by rw [← hsp], fun j u hu => ?_⟩
      have hj : j < len := by have := (List.getElem?_eq_some_iff.1 hu).1; simpa using this
      have := (hx j (by omega)).1
      rw [hsp, Addr.add_lit] at this
      rw [this, ← hu]
      simp [List.getElem?_range hj]
    · have hi' : i < len := by simpa using hi
      refine ⟨V i, by simp [List.getElem?_range hi'], ?_⟩
      have : ((List.range len).map f).getD i d = f i := by simp [List.getD_eq_getElem?_getD, List.getElem?_range hi']
      rw [this]
      exact hf i hi'
theorem intsT_of_trod {t : TypeId} (ht : Try.prog.underlying t = some (.slice 3)) {base fuel : Nat} {spare : Nat → Bool} {held : Bool} {v : Value} {x : DataW H × List MemPlace} (h : DataW.trod enc Try.prog W base spare held fuel t [v] = some x) : ∃ xs, IntsAt W v xs := by
  obtain ⟨xs, vs, hS, hl, he⟩ := lat_of_trod (R := fun _ u z => u = .int .i64 z ∧ (Lit.int .i64 z).wf = true) (d := 0) ht (by kernel_rfl) (fun n u y hy => by
    obtain ⟨m, hu, -, hw⟩ := DataW.trod_int Try.underlying3 hy
    exact ⟨m, by simpa using hu, hw⟩) h
  have hvs : vs = ints xs := by
    apply List.ext_getElem (by simpa [ints] using hl)
    intro i h1 h2
    obtain ⟨u, hu, rfl, -⟩ := he i (by omega)
    have hi : i < xs.length := by omega
    rw [List.getElem?_eq_getElem h1] at hu
    rw [Option.some.inj hu]
    simp [ints, List.getD_eq_getElem?_getD, hi]
  refine ⟨xs, hvs ▸ hS, fun z hz => ?_⟩
  obtain ⟨i, hi, rfl⟩ := List.getElem_of_mem hz
  obtain ⟨u, -, -, hw⟩ := he i hi
  have e : xs.getD i 0 = xs[i] := by simp [List.getD_eq_getElem?_getD, hi]
  rw [e] at hw
  exact wf_fits hw
theorem ints_of_trod {base fuel : Nat} {spare : Nat → Bool} {held : Bool} {v : Value} {x : DataW H × List MemPlace} (h : DataW.trod enc Try.prog W base spare held fuel 24 [v] = some x) : ∃ xs, IntsAt W v xs := intsT_of_trod Try.underlying24 h
end
end Go.Proofs
namespace Go.Proofs.Ytmpnengjboabcaa
open Go.ChangeShapes Go.WideShapes Go.ChangeAt Go.RowKit
theorem fac_k25 : (Try.prog.mayEnter) = true := by kernel_rfl
end Go.Proofs.Ytmpnengjboabcaa
namespace Go.Proofs.Ytmpnengjboabcaa
open Go.ChangeShapes Go.WideShapes Go.ChangeAt Go.RowKit
theorem fac_k26 : ((Rows.topPresentRow.lifted == Try.prog.liftsFinal)) = true := by kernel_rfl
end Go.Proofs.Ytmpnengjboabcaa
namespace Go.Proofs.Ytmpnengjboabcaa
open Go.ChangeShapes Go.WideShapes Go.ChangeAt Go.RowKit
theorem fac_k27 : ((Try.prog.make == some Rows.topPresentRow.make)) = true := by kernel_rfl
end Go.Proofs.Ytmpnengjboabcaa
namespace Go.Proofs.Ytmpnengjboabcaa
open Go.ChangeShapes Go.WideShapes Go.ChangeAt Go.RowKit
theorem fac_k1 : (laidOutB Try.prog) = true := by kernel_rfl
theorem fac_k2 : (mapsRowed Try.prog) = true := by kernel_rfl
theorem fac_k24 : (Try.prog.stopsHeard) = true := by kernel_rfl
end Go.Proofs.Ytmpnengjboabcaa
namespace Go.Proofs.Ytmpnengjboabcaa
theorem and_mk {a b : Bool} (h : a = true) (k : b = true) : (a && b) = true := by rw [h, k]; rfl
theorem joined_mk {P : Program} {f : FuncId} {fn : Func} {s : ChangeSpec} {c : OpenClaim} (k0 : (c.wf (OpenSpec.ofChange s)) = true) (k1 : (laidOutB P) = true) (k2 : (mapsRowed P) = true) (k3 : (fn.params.all (P.readableRec ·)) = true) (k4 : (namedTie P c.named s.vars) = true) (k5 : ((c.stops == [])) = true) (k6 : ((P.stops == [])) = true) (k7 : ((c.knobs == [])) = true) (k8 : ((P.stopKnobs == [])) = true) (k9 : ((c.inPlace == P.inPlace f)) = true) (k10 : ((c.unfollowed == P.unfollowed f)) = true) (k11 : ((c.recurses == P.recurses f)) = true) (k12 : ((c.named == P.varsNamed f)) = true) (k13 : ((c.maps == (fn.params.toList ++ s.plain.varTypes P).any (P.mapsRec ·))) = true) (k14 : ((c.ifaces == (fn.params.toList ++ s.plain.varTypes P).any (P.ifacesRec ·))) = true) (k15 : ((c.mapsOut == P.mapsAmong fn.resultTypes.toList)) = true) (k16 : ((c.loops == (fn.params.toList ++ s.plain.varTypes P).any (P.loopsFrom ·))) = true) (k17 : ((c.wideKeys == (fn.params.toList ++ s.plain.varTypes P ++ fn.resultTypes.toList).any (P.wideKeysFrom ·))) = true) (k18 : (s.vars.all (P.varReadable ·)) = true) (k19 : (fn.resultTypes.all (fun t => P.readableRec t && decide (t < P.types.size))) = true) (k20 : ((c.ifacesOut == fn.resultTypes.toList.any (P.ifacesRec ·))) = true) (k21 : ((c.loopsOut == fn.resultTypes.toList.any (P.loopsFrom ·))) = true) (k22 : ((c.plainKeys == P.plainKeys)) = true) (k23 : (c.shortTexts.isNone) = true) (k24 : (P.stopsHeard) = true) (k25 : (P.mayEnter) = true) (k26 : ((c.lifted == P.liftsFinal)) = true) (k27 : ((P.make == some c.make)) = true) (k28 : ((c.domain.isEmpty && c.kinds == [])) = true) (k29 : ((c.pinned == c.pinnedBy)) = true) (k30 : ((c.veiled == (fn.params.toList ++ s.plain.varTypes P ++ fn.resultTypes.toList).any (P.veiledRec ·))) = true) (k31 : (c.veiledFits P fn.params.toList (fn.params.toList ++ s.plain.varTypes P ++ fn.resultTypes.toList)) = true) : joinedFacts P f fn s c = true := by
  have q28 := k28
  rw [Bool.and_eq_true, beq_iff_eq] at q28
  unfold joinedFacts
  refine (and_mk (and_mk (and_mk (and_mk (and_mk (and_mk (and_mk (and_mk (and_mk (and_mk (and_mk (and_mk (and_mk (and_mk (and_mk (and_mk (and_mk (and_mk (and_mk (and_mk (and_mk (and_mk (and_mk (and_mk (and_mk (and_mk (and_mk (and_mk (and_mk (and_mk (and_mk k0 k1) k2) k3) k4) k5) k6) k7) k8) k9) k10) k11) k12) k13) k14) k15) k16) k17) k18) k19) k20) k21) k22) k23) k24) k25) k26) k27) ?_) k29) k30) k31)
  rw [if_pos q28.1, q28.2]
  rfl
end Go.Proofs.Ytmpnengjboabcaa
