/- The laws of chapter 19: long, awake; The walk of FelschRuns; Arguments opened: lists of numbers, tables, presentations; Arguments opened: presentations; Closed facts of the program (A); Closed facts of the program (B); Closed facts of the program (C); Closed facts of the program (D); The closed facts of a statement, one by one. -/
import Derived.Test.YtmpnengjboabcaaFrCS9
import Derived.Test.YtmpnengjboabcaaFrCS27
import Derived.Test.YtmpnengjboabcaaFrCS3
import Derived.ProofKit
import Derived.Deep.Slices
import Derived.Deep.Strs
import Derived.Test.YtmpnengjboabcaaRows
import Derived.Test.YtmpnengjboabcaaChecked
import Derived.OpenShut
import Derived.JoinedOf
namespace Go.Proofs
open Go.RowKit Go.Shelf Go.Proofs.Ct Go.Maps
set_option maxRecDepth 100000 in
set_option maxHeartbeats 1000000 in
theorem long78_any (w : World) (v : Value) (t : Tb) (ht : Tab w v t) : Calls Try.prog 78 #[v] w fun e w' => LongSaid t e ∧ w' = w := by
  obtain ⟨A, c, rfl, h1, h2, h3⟩ := ht.open_
  have HT := Lib.hid h3
  clear h3 ht
  have hn0 : (0 : Int) ≤ (t.length : Int) := Int.natCast_nonneg _
  go_enter Try.func78, Try.ntmps78
  go_wp2_with fail
  go_loopw [3] (fun i wr => ∃ k : Nat, i = .int .i64 k ∧ k ≤ t.length ∧ k ≤ 111 ∧ Hid (∀ j, j < k → (t.getD j []).length ≤ 60) ∧ wr = w) (fun i _ => t.length - (intOf i).toNat)
  case atStart => exact ⟨0, rfl, by omega, by omega, Lib.hid (fun j hj => absurd hj (Nat.not_lt_zero _)), rfl⟩
  case round =>
    obtain ⟨k, rfl, hk, hk41, HL, rfl⟩ := hrel
    have hk0 : (0 : Int) ≤ (k : Int) := Int.natCast_nonneg _
    by_cases hlt : k < t.length
    · have hlt' : (k : Int) < (t.length : Int) := by omega
      by_cases h41 : k < 111
      · have h41' : (k : Int) < 111 := by omega
        obtain ⟨b, o, rfl, hcc⟩ := HT.out (by omega)
        obtain ⟨u, hu, hI⟩ := hcc k hlt
        obtain ⟨Au, cu, rfl, -, -, -⟩ := hI.open_
        have HL2 : Hid ((t.getD k []).length ≤ 60 → ∀ j, j < k + 1 → (t.getD j []).length ≤ 60) := Lib.hid fun h => all_succ HL.out h
        clear hcc hI
        generalize (t.getD k []).length = rl at *
        have hrl0 : (0 : Int) ≤ (rl : Int) := Int.natCast_nonneg _
        by_cases hr : 60 < rl
        · have hr' : (60 : Int) < (rl : Int) := by omega
          have HD : Hid (LongSaid t (.returned (.bool true))) := Lib.hid ⟨true, rfl, fun h => by cases h⟩
          go_wp2_with fail
          go_ret
          exact ⟨HD.out, (by first | trivial | rfl)⟩
        · have hr' : ¬ (60 : Int) < (rl : Int) := by omega
          have HL3 := Lib.hid (HL2.out (by omega))
          by_cases h10 : 10 ≤ k
          · have h10' : (10 : Int) ≤ (k : Int) := by omega
            by_cases hr3 : 3 < rl
            · have hr3' : (3 : Int) < (rl : Int) := by omega
              have HD : Hid (LongSaid t (.returned (.bool true))) := Lib.hid ⟨true, rfl, fun h => by cases h⟩
              go_wp2_with fail
              go_ret
              exact ⟨HD.out, (by first | trivial | rfl)⟩
            · have hr3' : ¬ (3 : Int) < (rl : Int) := by omega
              go_wp2_with fail
              go_roundw
              case rel => exact ⟨k + 1, by go_num, by omega, by omega, HL3, (by first | trivial | rfl)⟩
              case measure => simp [intOf]; omega
          · have h10' : ¬ (10 : Int) ≤ (k : Int) := by omega
            go_wp2_with fail
            go_roundw
            case rel => exact ⟨k + 1, by go_num, by omega, by omega, HL3, (by first | trivial | rfl)⟩
            case measure => simp [intOf]; omega
      · have h41' : ¬ (k : Int) < 111 := by omega
        have hbig : (110 : Int) < (t.length : Int) := by omega
        have HD : Hid (LongSaid t (.returned (.bool true))) := Lib.hid ⟨true, rfl, fun h => by cases h⟩
        go_wp2_with fail
        go_ret
        exact ⟨HD.out, (by first | trivial | rfl)⟩
    · have hlt' : ¬ (k : Int) < (t.length : Int) := by omega
      by_cases hbig : 110 < t.length
      · have hbig' : (110 : Int) < (t.length : Int) := by omega
        have HD : Hid (LongSaid t (.returned (.bool true))) := Lib.hid ⟨true, rfl, fun h => by cases h⟩
        go_wp2_with fail
        go_ret
        exact ⟨HD.out, (by first | trivial | rfl)⟩
      · have hbig' : ¬ (110 : Int) < (t.length : Int) := by omega
        have HD : Hid (LongSaid t (.returned (.bool false))) := Lib.hid ⟨false, rfl, fun _ => ⟨by omega, fun j => by
          rcases Nat.lt_or_ge j k with hj | hj
          · exact HL.out j hj
          · rw [List.getD_eq_getElem?_getD, List.getElem?_eq_none (by omega)]
            exact Nat.zero_le _⟩⟩
        go_wp2_with fail
        go_ret
        exact ⟨HD.out, (by first | trivial | rfl)⟩
def cubeT : List (List Int) := [[1, 1, 1]]
def wakeF : List (List Int) := [[1, 2], [2, 0], [0, 1]]
theorem wake_felsch : felschE 1 cubeT [] 3 = (wakeF, (3, 3), 0) := by decide +kernel
set_option maxRecDepth 100000 in
set_option maxHeartbeats 1000000 in
theorem awake79_any (w : World) : Calls Try.prog 79 #[] w fun e w' => e = .returned (.bool true) ∧ Below w.heap.size w w' := by
  have HE := Lib.hid (fun W vr vs (h1 : Tab W vr cubeT) (h2 : Tab W vs []) => (felsch85_B W vr vs 1 cubeT [] 3 h1 h2 (fun j => by
      rcases j with _ | j
      · simp [cubeT]
      · simp [cubeT]) (fun j => by simp) (by simp) (.inl (by decide))).mono fun e w' (⟨⟨u, h1, h2⟩, h3⟩ : FelschPost 1 cubeT [] 3 W e w') => by
    rw [wake_felsch] at h1 h2
    exact (⟨⟨u, h1, h2.at_⟩, h3⟩ : (∃ u, e = .returned (.tuple #[u, .agg #[.int .i64 3, .int .i64 3, .int .i64 0], .int .i64 0]) ∧ Tab w' u wakeF) ∧ Below W.heap.size W w'))
  have HS := Lib.hid fun (W : World) (a b : Value) (h1 : Tab W a wakeF) (h2 : Tab W b wakeF) => (same18_any W a b wakeF wakeF h1 h2)
  have hq := eql49g 3 3 0
  have HL1 := Lib.hid (lit1 w [1, 1, 1] (by unfold Fits; decide) (n := 3) rfl (by omega) (e := 25))
  have HB1 : Hid (Below w.heap.size w ((w.alloc (.cells (ints [1, 1, 1]).toArray 3)).alloc (.cells #[.slice (some ⟨w.heap.size, 0, none⟩) 3 3] 25))) := Lib.hid (((Below.refl _ _).alloc (Nat.le_refl _) _).alloc (by simp) _)
  have HL3 : Hid (∀ W : World, Tab ((((((W.alloc (.cells #[.int .i64 3, .int .i64 3, .int .i64 0] 49)).alloc (.cells #[.int .i64 1, .int .i64 2] 3)).alloc (.cells #[.int .i64 2, .int .i64 0] 3)).alloc (.cells #[.int .i64 0, .int .i64 1] 3)).alloc (.cells #[.slice (some ⟨W.heap.size + 1, 0, none⟩) 2 2, .slice (some ⟨W.heap.size + 1 + 1, 0, none⟩) 2 2, .slice (some ⟨W.heap.size + 1 + 1 + 1, 0, none⟩) 2 2] 24))) (.slice (some ⟨W.heap.size + 1 + 1 + 1 + 1, 0, none⟩) 3 3) wakeF ∧ Below W.heap.size W ((((((W.alloc (.cells #[.int .i64 3, .int .i64 3, .int .i64 0] 49)).alloc (.cells #[.int .i64 1, .int .i64 2] 3)).alloc (.cells #[.int .i64 2, .int .i64 0] 3)).alloc (.cells #[.int .i64 0, .int .i64 1] 3)).alloc (.cells #[.slice (some ⟨W.heap.size + 1, 0, none⟩) 2 2, .slice (some ⟨W.heap.size + 1 + 1, 0, none⟩) 2 2, .slice (some ⟨W.heap.size + 1 + 1 + 1, 0, none⟩) 2 2] 24)))) := Lib.hid fun W => by
    have h := lit3 (W.alloc (.cells #[.int .i64 3, .int .i64 3, .int .i64 0] 49)) [1, 2] [2, 0] [0, 1] (by unfold Fits; decide) (by unfold Fits; decide) (by unfold Fits; decide) (n := 2) (m := 2) (l := 2) rfl rfl rfl ⟨by omega, by omega, by omega⟩ (e := 24)
    simp only [World.size_alloc] at h
    exact ⟨h, (((((Below.refl _ _).alloc (Nat.le_refl _) _).alloc (by simp) _).alloc (by simp; omega) _).alloc (by simp; omega) _).alloc (by simp; omega) _⟩
  go_enter Try.func79, Try.ntmps79
  go_wp2_with (first
    | (go_at_call 85; (refine (HE.out _ _ _ HL1.out tab_nil).mono ?_); rintro e w2 ⟨⟨u, rfl, ht⟩, hb⟩
       have HT2 := Lib.hid ht
       have HB2 := Lib.hid (HB1.out.trans (hb.mono HB1.out.size))
       obtain ⟨A2, c2, rfl⟩ := Tab.form ht
       have HBa : Hid (Below w2.heap.size w2 (w2.alloc (.cells #[.int .i64 3, .int .i64 3, .int .i64 0] 49))) := Lib.hid ((Below.refl _ _).alloc (Nat.le_refl _) _)
       clear ht hb)
    | (go_at_call 42; (with_reducible refine (HS.out _ _ _ (kept_tab.below HT2.out (HL3.out w2).2) (HL3.out w2).1).mono ?_); rintro e w4 ⟨rfl, q, rfl⟩))
  go_ret
  exact ⟨ret_bool (by simp), below_drewN (HB2.out.trans ((HL3.out w2).2.mono HB2.out.size)) _⟩
end Go.Proofs
namespace Go.Proofs
open Go.RowKit Go.Shelf Go.Proofs.Ct Go.Maps
set_option maxRecDepth 100000 in
set_option maxHeartbeats 4000000 in
theorem felschRuns17_walk (w : World) (g : Int) (vr vs : Value) (limit : Int) (rels sub : List W) (hR : Tab w vr rels) (hS : Tab w vs sub) :
    Calls Try.prog 17 #[.agg #[.int .i64 g, vr], vs, .int .i64 limit] w fun e w' => e = .returned (.bool true) ∧ Below w.heap.size w w' := by
  obtain ⟨Ar, cr, rfl⟩ := Tab.form hR
  obtain ⟨As, cs, rfl⟩ := Tab.form hS
  have HP : Hid (∀ W, W = w.alloc (.cells #[.int .i64 g, .slice Ar rels.length cr] 40) → Below w.heap.size w W ∧ W.heap[w.heap.size]? = some (.cells #[.int .i64 g, .slice Ar rels.length cr] 40 (0, 0)) ∧ W.heap.size = w.heap.size + 1) := Lib.hid fun W h => by
    subst h
    exact ⟨(Below.refl _ _).alloc (Nat.le_refl _) _, heap_alloc_new w _, by simp⟩
  have HRR := Lib.hid hR
  have HSS := Lib.hid hS
  clear hR hS
  go_enter Try.func17, Try.ntmps17
  go_wp2_with fail
  generalize hw0 : w.alloc (.cells #[.int .i64 g, .slice Ar rels.length cr] 40) = w0 at *
  obtain ⟨hb0, hbx, hsz⟩ := HP.out w0 rfl
  have HB0 := Lib.hid hb0
  have HLD : Hid (∀ W, Below w0.heap.size w0 W → (Instr.loadAt 40 (.pointer (some ⟨w.heap.size, 0, none⟩))).run Try.prog W = .ok (.agg #[.int .i64 g, .slice Ar rels.length cr]) W) := Lib.hid fun W h => load40 ((h.block _ (by omega)).trans hbx)
  have HTR : Hid (∀ W, Below w0.heap.size w0 W → Tab W (.slice Ar rels.length cr) rels) := Lib.hid fun W h => kept_tab.below HRR.out (hb0.trans (h.mono hb0.size))
  have HTS : Hid (∀ W, Below w0.heap.size w0 W → Tab W (.slice As sub.length cs) sub) := Lib.hid fun W h => kept_tab.below HSS.out (hb0.trans (h.mono hb0.size))
  have HRF := Lib.hid (Below.refl w0.heap.size w0)
  clear hw0 hb0 hbx hsz HP HRR HSS
  have HEND : Hid (∀ W, Below w0.heap.size w0 W → Below w.heap.size w W) := Lib.hid fun W h => HB0.out.trans (h.mono HB0.out.size)
  refine (long78_any w0 _ rels (HTR.out w0 HRF.out)).mono ?_
  rintro e w' ⟨⟨b, rfl, hb1⟩, rfl⟩
  cases b with
  | true =>
    go_wp2_with (go_at_call 79; (refine (awake79_any _).mono ?_); rintro e w3 ⟨rfl, hb⟩
                 have HB := Lib.hid hb
                 clear hb)
    go_ret
    exact ⟨rfl, HEND.out _ HB.out⟩
  | false =>
    have HR1 := Lib.hid (hb1 rfl)
    clear hb1
    go_wp2_with fail
    refine (long78_any _ _ sub (HTS.out _ HRF.out)).mono ?_
    rintro e w' ⟨⟨b, rfl, hb1⟩, rfl⟩
    cases b with
    | true =>
      go_wp2_with (go_at_call 79; (refine (awake79_any _).mono ?_); rintro e w3 ⟨rfl, hb⟩
                   have HB := Lib.hid hb
                   clear hb)
      go_ret
      exact ⟨rfl, HEND.out _ HB.out⟩
    | false =>
      have HS1 := Lib.hid (hb1 rfl)
      clear hb1
      by_cases hlim : 200 < limit ∧ limit ≤ 20000
      · obtain ⟨hl1, hl2⟩ := hlim
        go_wp2_with (go_at_call 79; (refine (awake79_any _).mono ?_); rintro e w3 ⟨rfl, hb⟩
                     have HB := Lib.hid hb
                     clear hb)
        go_ret
        exact ⟨rfl, HEND.out _ HB.out⟩
      · have hor : limit ≤ 200 ∨ (200 < limit ∧ 20000 < limit) := by omega
        have hlm : limit ≤ 1000 ∨ 20000 < limit := by omega
        have HLM := Lib.hid hlm
        have H85 : Hid (∀ W, Below w'.heap.size w' W → Calls Try.prog 85 #[.agg #[.int .i64 g, .slice Ar rels.length cr], .slice As sub.length cs, .int .i64 limit] W (FelschPost g rels sub limit W)) := Lib.hid fun W h => felsch85_B W _ _ g rels sub limit (HTR.out W h) (HTS.out W h) (fun j => by have := HR1.out.2 j; omega) (fun j => by have := HS1.out.2 j; omega) (by have := HS1.out.1; omega) HLM.out
        have H86 : Hid (∀ W, Below w'.heap.size w' W → Calls Try.prog 86 #[.agg #[.int .i64 g, .slice Ar rels.length cr], .slice As sub.length cs, .int .i64 limit] W (FelschPost g rels sub limit W)) := Lib.hid fun W h => felsch86_B W _ _ g rels sub limit (HTR.out W h) (HTS.out W h) (fun j => by have := HR1.out.2 j; omega) (fun j => by have := HS1.out.2 j; omega) (by have := HS1.out.1; omega) HLM.out
        have H34 : Hid (∀ (W : World) (a b : Value), Tab W a (felschE g rels sub limit).1 → Tab W b (felschE g rels sub limit).1 → Calls Try.prog 42 #[a, b] W fun e w'' => e = .returned (.bool true) ∧ ∃ q, w'' = W.drewN q) := Lib.hid fun W a b h1 h2 => (same18_any W a b _ _ h1 h2).mono fun e w'' ⟨h, h'⟩ => ⟨h.trans (ret_bool (decide_eq_true rfl)), h'⟩
        have HAL : Hid (∀ (W : World) (C : Array Value), Below w'.heap.size w' W → Below w'.heap.size w' (W.alloc (.cells C 49))) := Lib.hid fun W C h => h.alloc h.size _
        unfold FelschPost at H85 H86
        generalize (felschE g rels sub limit).1 = T at *
        generalize (felschE g rels sub limit).2.1.1 = n1 at *
        generalize (felschE g rels sub limit).2.1.2 = n2 at *
        generalize (felschE g rels sub limit).2.2 = n3 at *
        clear HR1 HS1 HTR HTS hlm HLM
        have hq := eql49g n1 n2 0
        have hxx : (n3 == n3) = true := by simp
        clear hlim
        rcases hor with hl | ⟨hl, hl2⟩
        all_goals
          go_wp2_with (first
            | ((with_reducible refine wpList_sel 30 ?_); refine wpList_val rfl (r_loadAt 40 (.tmp 3) _ _ rfl rfl (HLD.out _ HRF.out)) ?_)
            | (go_at_call 85; (refine (H85.out _ HRF.out).mono ?_); rintro e w3 ⟨⟨u1, rfl, hx⟩, hb⟩
               have HB3 := Lib.hid hb
               have HC3 := Lib.hid (HAL.out w3 #[.int .i64 n1, .int .i64 n2, .int .i64 0] hb)
               have HX1 := Lib.hid (kept_tab.below hx.at_ ((Below.refl w3.heap.size w3).alloc (Nat.le_refl _) (.cells #[.int .i64 n1, .int .i64 n2, .int .i64 0] 49)))
               have HN3 : Hid (∀ W, Below (w3.alloc (.cells #[.int .i64 n1, .int .i64 n2, .int .i64 0] 49)).heap.size (w3.alloc (.cells #[.int .i64 n1, .int .i64 n2, .int .i64 0] 49)) W → W.cell? ⟨w3.heap.size, 0, none⟩ = some (.int .i64 n1) ∧ W.cell? ⟨w3.heap.size, 1, none⟩ = some (.int .i64 n2) ∧ W.cell? ⟨w3.heap.size, 2, none⟩ = some (.int .i64 0)) := Lib.hid fun W h => cells49 ((h.block _ (by simp)).trans (heap_alloc_new w3 _))
               obtain ⟨A1, k1, rfl⟩ := Tab.form HX1.out
               clear hb hx)
            | ((with_reducible refine wpList_sel 38 ?_); refine wpList_val rfl (r_loadAt 40 (.tmp 3) _ _ rfl rfl (HLD.out _ HC3.out)) ?_)
            | (go_at_call 86; (refine (H86.out _ HC3.out).mono ?_); rintro e w4 ⟨⟨u2, rfl, hx⟩, hb⟩
               have HB4 := Lib.hid (HC3.out.trans (hb.mono HC3.out.size))
               have HC4 := Lib.hid (HAL.out w4 #[.int .i64 n1, .int .i64 n2, .int .i64 0] HB4.out)
               have HD4 := Lib.hid ((Below.refl w4.heap.size w4).alloc (Nat.le_refl _) (.cells #[.int .i64 n1, .int .i64 n2, .int .i64 0] 49))
               have HX2 := Lib.hid (kept_tab.below hx.at_ HD4.out)
               have HX14 := Lib.hid (kept_tab.below (kept_tab.below HX1.out hb) HD4.out)
               obtain ⟨d1, d2, d3⟩ := HN3.out _ (hb.trans (HD4.out.mono hb.size))
               obtain ⟨A2, k2, rfl⟩ := Tab.form hx.at_
               clear hb hx)
            | (go_at_call 42; (refine (H34.out _ _ _ HX14.out HX2.out).mono ?_); rintro e w5 ⟨rfl, q, rfl⟩
               have HC5 := Lib.hid (below_drewN HC4.out q)
               clear d1 d2 d3)
            | (go_at_call 79; (refine (awake79_any _).mono ?_); rintro e w8 ⟨rfl, hb⟩
               have HB8 := Lib.hid (HC5.out.trans (hb.mono HC5.out.size))
               clear hb))
          go_ret
          exact ⟨rfl, HEND.out _ HB8.out⟩
end Go.Proofs
namespace Go.Proofs
open Go.RowKit Go.ChangeShapes Go.WideShapes Go.ChangeAt Go.Deep
section
variable {H : Type} {enc : TypeId × Value → H} {W : World}
theorem spot_none {a : Addr} {v : Value} (h : W.cell? (a.add 0) = some v) : a = ⟨a.block, a.off, none⟩ := by
  obtain ⟨b, o, s⟩ := a
  cases s with
  | none => rfl
  | some q =>
    exfalso
    have e : ({ block := b, off := o, spot := some q } : Addr).add 0 = { block := b, off := o, spot := some q } := by unfold Addr.add; rw [if_pos rfl]
    rw [e] at h
    unfold World.cell? at h
    simp only [Option.isSome_some, if_true] at h
    split at h <;> cases h
theorem wf_fits {x : Int} (h : (Lit.int .i64 x).wf = true) : -9223372036854775808 ≤ x ∧ x ≤ 9223372036854775807 := by
  simpa [Lit.wf, IntKind.min, IntKind.max, IntKind.signed, IntKind.bits] using h
theorem lat_of_trod {α : Type} {R : World → Value → α → Prop} {d : α} {t e : TypeId} {base fuel : Nat} {spare : Nat → Bool} {held : Bool} {v : Value} {x : DataW H × List MemPlace} (ht : Try.prog.underlying t = some (.slice e)) (hc : Try.prog.cellsOf e = 1)
    (hR : ∀ n u y, DataW.trod enc Try.prog W base spare held n e [u] = some y → ∃ z, R W u z) (h : DataW.trod enc Try.prog W base spare held fuel t [v] = some x) : ∃ xs, LAt R d W v xs := by
  rcases open_slice1 ht hc h with ⟨hv, -⟩ | ⟨a, len, cap, m, n, V, D, Pl, hv, -, hl, hm, hmm, -, hx⟩
  · obtain rfl : v = .slice none 0 0 := by simpa using hv
    exact ⟨[], [], ⟨none, 0, 0, rfl, rfl, Nat.le_refl _, by simp [maxLen], fun h => absurd h (by simp)⟩, rfl, fun i hi => absurd hi (by simp)⟩
  · obtain rfl : v = .slice (some a) len cap := by simpa using hv
    have hlm : len ≤ m := by rw [hmm]; split <;> omega
    have hz : ∀ i, i < len → ∃ z, R W (V i) z := fun i hi => hR n (V i) _ (hx i (by omega)).2
    have hf : ∃ f : Nat → α, ∀ i, i < len → R W (V i) (f i) := by
      have hz' : ∀ i, ∃ z, i < len → R W (V i) z := fun i => by
        by_cases hi : i < len
        · obtain ⟨z, hz⟩ := hz i hi; exact ⟨z, fun _ => hz⟩
        · exact ⟨d, fun h => absurd h hi⟩
      exact ⟨fun i => Classical.choose (hz' i), fun i => Classical.choose_spec (hz' i)⟩
    obtain ⟨f, hf⟩ := hf
    refine ⟨(List.range len).map f, (List.range len).map V, ⟨_, len, cap, rfl, by simp, hl, hm, fun h0 => ?_⟩, by simp, fun i hi => ?_⟩
    · have hsp := spot_none (hx 0 (by omega)).1
      refine ⟨a.block, a.off, by rw [← hsp], fun j u hu => ?_⟩
      have hj : j < len := by have := (List.getElem?_eq_some_iff.1 hu).1; simpa using this
      have := (hx j (by omega)).1
      rw [hsp, Addr.add_lit] at this
      rw [this, ← hu]
      simp [List.getElem?_range hj]
    · have hi' : i < len := by simpa using hi
      refine ⟨V i, by simp [List.getElem?_range hi'], ?_⟩
      have : ((List.range len).map f).getD i d = f i := by simp [List.getD_eq_getElem?_getD, List.getElem?_range hi']
      rw [this]
      exact hf i hi'
theorem intsT_of_trod {t : TypeId} (ht : Try.prog.underlying t = some (.slice 3)) {base fuel : Nat} {spare : Nat → Bool} {held : Bool} {v : Value} {x : DataW H × List MemPlace} (h : DataW.trod enc Try.prog W base spare held fuel t [v] = some x) : ∃ xs, IntsAt W v xs := by
  obtain ⟨xs, vs, hS, hl, he⟩ := lat_of_trod (R := fun _ u z => u = .int .i64 z ∧ (Lit.int .i64 z).wf = true) (d := 0) ht (by kernel_rfl) (fun n u y hy => by
    obtain ⟨m, hu, -, hw⟩ := DataW.trod_int Try.underlying3 hy
    exact ⟨m, by simpa using hu, hw⟩) h
  have hvs : vs = ints xs := by
    apply List.ext_getElem (by simpa [ints] using hl)
    intro i h1 h2
    obtain ⟨u, hu, rfl, -⟩ := he i (by omega)
    have hi : i < xs.length := by omega
    rw [List.getElem?_eq_getElem h1] at hu
    rw [Option.some.inj hu]
    simp [ints, List.getD_eq_getElem?_getD, hi]
  refine ⟨xs, hvs ▸ hS, fun z hz => ?_⟩
  obtain ⟨i, hi, rfl⟩ := List.getElem_of_mem hz
  obtain ⟨u, -, -, hw⟩ := he i hi
  have e : xs.getD i 0 = xs[i] := by simp [List.getD_eq_getElem?_getD, hi]
  rw [e] at hw
  exact wf_fits hw
theorem word_of_trod {base fuel : Nat} {spare : Nat → Bool} {held : Bool} {v : Value} {x : DataW H × List MemPlace} (h : DataW.trod enc Try.prog W base spare held fuel 25 [v] = some x) : ∃ xs, IntsAt W v xs := intsT_of_trod Try.underlying25 h
theorem words_of_trod {base fuel : Nat} {spare : Nat → Bool} {held : Bool} {v : Value} {x : DataW H × List MemPlace} (h : DataW.trod enc Try.prog W base spare held fuel 31 [v] = some x) : ∃ L, Tab W v L :=
  lat_of_trod Try.underlying31 (by kernel_rfl) (fun _ _ _ hy => word_of_trod hy) h
end
end Go.Proofs
namespace Go.Proofs
open Go.RowKit Go.ChangeShapes Go.WideShapes Go.ChangeAt Go.Deep
section
variable {H : Type} {enc : TypeId × Value → H} {W : World}
theorem cells40p : Try.prog.cellsOf 40 = 2 := by kernel_rfl
theorem cells3p : Try.prog.cellsOf 3 = 1 := by kernel_rfl
theorem cells31p : Try.prog.cellsOf 31 = 1 := by kernel_rfl
set_option maxRecDepth 100000 in
theorem pres_of_trod {base : Nat} {spare : Nat → Bool} {held : Bool} {v : Value} {d : DataW H} {ps : List MemPlace} (h : DataW.Trod enc Try.prog W base spare held 40 v d ps) : ∃ g a1 P, v = .agg #[.int .i64 g, a1] ∧ Tab W a1 P := by
  obtain ⟨fuel, hf⟩ := h
  obtain ⟨y0, y1, n, -, hlen, h0, h1⟩ := trod_struct2 Try.underlying40 hf
  rw [cells40p] at hlen
  obtain ⟨cs, rfl⟩ : ∃ cs, v = .agg cs := by
    cases v <;> simp [Value.cells] at hlen
    exact ⟨_, rfl⟩
  have hcs : cs.toList.length = 2 := hlen
  obtain ⟨l⟩ := cs
  match l, hcs with
  | [a0, a1], _ =>
    simp [Value.cells, cells3p, cells31p] at h0 h1
    obtain ⟨m, hu, -, hw⟩ := DataW.trod_int Try.underlying3 h0
    obtain ⟨L, hL⟩ := words_of_trod h1
    have e : a0 = .int .i64 m := by simpa using hu
    subst e
    exact ⟨m, a1, L, rfl, hL⟩
end
end Go.Proofs
namespace Go.Proofs.Ytmpnengjboabcaa
open Go.ChangeShapes Go.WideShapes Go.ChangeAt Go.RowKit
theorem fac_k25 : (Try.prog.mayEnter) = true := by kernel_rfl
end Go.Proofs.Ytmpnengjboabcaa
namespace Go.Proofs.Ytmpnengjboabcaa
open Go.ChangeShapes Go.WideShapes Go.ChangeAt Go.RowKit
theorem fac_k26 : ((Rows.topPresentRow.lifted == Try.prog.liftsFinal)) = true := by kernel_rfl
end Go.Proofs.Ytmpnengjboabcaa
namespace Go.Proofs.Ytmpnengjboabcaa
open Go.ChangeShapes Go.WideShapes Go.ChangeAt Go.RowKit
theorem fac_k27 : ((Try.prog.make == some Rows.topPresentRow.make)) = true := by kernel_rfl
end Go.Proofs.Ytmpnengjboabcaa
namespace Go.Proofs.Ytmpnengjboabcaa
open Go.ChangeShapes Go.WideShapes Go.ChangeAt Go.RowKit
theorem fac_k1 : (laidOutB Try.prog) = true := by kernel_rfl
theorem fac_k2 : (mapsRowed Try.prog) = true := by kernel_rfl
theorem fac_k24 : (Try.prog.stopsHeard) = true := by kernel_rfl
end Go.Proofs.Ytmpnengjboabcaa
namespace Go.Proofs.Ytmpnengjboabcaa
theorem and_mk {a b : Bool} (h : a = true) (k : b = true) : (a && b) = true := by rw [h, k]; rfl
theorem joined_mk {P : Program} {f : FuncId} {fn : Func} {s : ChangeSpec} {c : OpenClaim} (k0 : (c.wf (OpenSpec.ofChange s)) = true) (k1 : (laidOutB P) = true) (k2 : (mapsRowed P) = true) (k3 : (fn.params.all (P.readableRec ·)) = true) (k4 : (namedTie P c.named s.vars) = true) (k5 : ((c.stops == [])) = true) (k6 : ((P.stops == [])) = true) (k7 : ((c.knobs == [])) = true) (k8 : ((P.stopKnobs == [])) = true) (k9 : ((c.inPlace == P.inPlace f)) = true) (k10 : ((c.unfollowed == P.unfollowed f)) = true) (k11 : ((c.recurses == P.recurses f)) = true) (k12 : ((c.named == P.varsNamed f)) = true) (k13 : ((c.maps == (fn.params.toList ++ s.plain.varTypes P).any (P.mapsRec ·))) = true) (k14 : ((c.ifaces == (fn.params.toList ++ s.plain.varTypes P).any (P.ifacesRec ·))) = true) (k15 : ((c.mapsOut == P.mapsAmong fn.resultTypes.toList)) = true) (k16 : ((c.loops == (fn.params.toList ++ s.plain.varTypes P).any (P.loopsFrom ·))) = true) (k17 : ((c.wideKeys == (fn.params.toList ++ s.plain.varTypes P ++ fn.resultTypes.toList).any (P.wideKeysFrom ·))) = true) (k18 : (s.vars.all (P.varReadable ·)) = true) (k19 : (fn.resultTypes.all (fun t => P.readableRec t && decide (t < P.types.size))) = true) (k20 : ((c.ifacesOut == fn.resultTypes.toList.any (P.ifacesRec ·))) = true) (k21 : ((c.loopsOut == fn.resultTypes.toList.any (P.loopsFrom ·))) = true) (k22 : ((c.plainKeys == P.plainKeys)) = true) (k23 : (c.shortTexts.isNone) = true) (k24 : (P.stopsHeard) = true) (k25 : (P.mayEnter) = true) (k26 : ((c.lifted == P.liftsFinal)) = true) (k27 : ((P.make == some c.make)) = true) (k28 : ((c.domain.isEmpty && c.kinds == [])) = true) (k29 : ((c.pinned == c.pinnedBy)) = true) (k30 : ((c.veiled == (fn.params.toList ++ s.plain.varTypes P ++ fn.resultTypes.toList).any (P.veiledRec ·))) = true) (k31 : (c.veiledFits P fn.params.toList (fn.params.toList ++ s.plain.varTypes P ++ fn.resultTypes.toList)) = true) : joinedFacts P f fn s c = true := by
  have q28 := k28
  rw [Bool.and_eq_true, beq_iff_eq] at q28
  unfold joinedFacts
  refine (and_mk (and_mk (and_mk (and_mk (and_mk (and_mk (and_mk (and_mk (and_mk (and_mk (and_mk (and_mk (and_mk (and_mk (and_mk (and_mk (and_mk (and_mk (and_mk (and_mk (and_mk (and_mk (and_mk (and_mk (and_mk (and_mk (and_mk (and_mk (and_mk (and_mk (and_mk k0 k1) k2) k3) k4) k5) k6) k7) k8) k9) k10) k11) k12) k13) k14) k15) k16) k17) k18) k19) k20) k21) k22) k23) k24) k25) k26) k27) ?_) k29) k30) k31)
  rw [if_pos q28.1, q28.2]
  rfl
end Go.Proofs.Ytmpnengjboabcaa
