/- rewrite.of at a standard table; rewrite.Count; rewrite.Generators. -/
import Derived.Test.YtmpnengjboabcaaGreatRgCS7
import Derived.Test.YtmpnengjboabcaaGreatRgCS1
namespace Go.Proofs
open Go.RowKit Go.Shelf Go.Proofs.Ct Go.Maps
theorem load89 {w : World} {b : Nat} {v0 v1 v2 v3 : Value} (hc : w.heap[b]? = some (.cells #[v0, v1, v2, v3] 66 (0, 0))) : (Instr.loadAt 60 (.pointer (some ⟨b, 0, none⟩))).run Tryz.prog w = .ok (.agg #[v0, v1]) w := by
  have hr : w.rangeAt b 0 [v0, v1] := fun j v hj => by
    rw [cell_of_row _ _ _ _ _ _ hc, Nat.zero_add]
    have hl : j < 2 := by have := (List.getElem?_eq_some_iff.1 hj).1; simpa using this
    have : j = 0 ∨ j = 1 := by omega
    rcases this with rfl | rfl <;> simpa using hj
  exact run_loadAt_mid (P := Tryz.prog) w b 0 60 [v0, v1] _ hr Tryz.underlying60 rfl (by kernel_rfl)
theorem load93 {w : World} {b : Nat} {v0 v1 v2 v3 : Value} (hc : w.heap[b]? = some (.cells #[v0, v1, v2, v3] 66 (0, 0))) : (Instr.loadAt 64 (.pointer (some ⟨b, 2, none⟩))).run Tryz.prog w = .ok (.agg #[v2, v3]) w := by
  have hr : w.rangeAt b 2 [v2, v3] := fun j v hj => by
    rw [cell_of_row _ _ _ _ _ _ hc]
    have hl : j < 2 := by have := (List.getElem?_eq_some_iff.1 hj).1; simpa using this
    have : j = 0 ∨ j = 1 := by omega
    rcases this with rfl | rfl <;> simpa using hj
  exact run_loadAt_mid (P := Tryz.prog) w b 2 64 [v2, v3] _ hr Tryz.underlying64 rfl (by kernel_rfl)
theorem one95 (A B C : Option Addr) (n m q a b d : Nat) (f : Option Nat) : (#[Value.slice A n a, .slice B m b, .map f, .slice C q d] : Array Value).all (·.oneCell') = true := by simp [Value.oneCell']
theorem box_cells {w : World} {b : Nat} {v0 v1 v2 v3 : Value} (hc : w.heap[b]? = some (.cells #[v0, v1, v2, v3] 66 (0, 0))) : w.cell? ⟨b, 0, none⟩ = some v0 ∧ w.cell? ⟨b, 1, none⟩ = some v1 ∧ w.cell? ⟨b, 2, none⟩ = some v2 ∧ w.cell? ⟨b, 3, none⟩ = some v3 :=
  ⟨by rw [cell_of_row _ _ _ _ _ _ hc]; rfl, by rw [cell_of_row _ _ _ _ _ _ hc]; rfl, by rw [cell_of_row _ _ _ _ _ _ hc]; rfl, by rw [cell_of_row _ _ _ _ _ _ hc]; rfl⟩
structure OfSt (w1 wr : World) (vt u vl : Value) (ps : List (Nat × Nat)) : Prop where
  below : Below w1.heap.size w1 wr
  box : wr.heap[w1.heap.size + 1]? = some (.cells #[vt, u, .map (some w1.heap.size), vl] 66 (0, 0))
  map : MapP wr w1.heap.size ps
  list : OwnP (w1.heap.size + 2) wr vl ps
theorem OfSt.below' {w1 wr w' : World} {vt u vl : Value} {ps : List (Nat × Nat)} (h : OfSt w1 wr vt u vl ps) (hb : Below wr.heap.size wr w') : OfSt w1 w' vt u vl ps :=
  ⟨h.below.trans (hb.mono h.below.size), (hb.block _ (Array.getElem?_eq_some_iff.1 h.box).1).trans h.box, h.map.below hb, owns_below h.list hb⟩
theorem OfSt.add {w1 wr : World} {vt u vl : Value} {ps : List (Nat × Nat)} (h : OfSt w1 wr vt u vl ps) {k j : Nat} (hs : Sml k j) (hn : (k, j) ∉ ps) (hl : ps.length ≤ 400000) :
    ∃ A' c' w5 w6, (Builtin.append_ #[62, 62] 62 #[vl, .slice (some ⟨wr.heap.size, 0, none⟩) 1 1]).run Tryz.prog (wr.alloc (.cells #[.int .i64 (k : Int), .int .i64 ((j : Int) + 1)] 69)) = .ok (.slice A' (ps.length + 1) c') w5 ∧
      w5.cell? ⟨w1.heap.size + 1, 2, none⟩ = some (.map (some w1.heap.size)) ∧ w5.cell? ⟨w1.heap.size + 1, 3, none⟩ = some vl ∧ w5.frozen? ⟨w1.heap.size + 1, 3, none⟩ = false ∧
      (Instr.mapUpdate 61 (.map (some w1.heap.size)) (.agg #[.int .i64 (k : Int), .int .i64 ((j : Int) + 1)]) (.int .i64 ((ps.length : Int) + 1))).run Tryz.prog (w5.setCell ⟨w1.heap.size + 1, 3, none⟩ (.slice A' (ps.length + 1) c')) = .ok () w6 ∧
      OfSt w1 w6 vt u (.slice A' (ps.length + 1) c') (ps ++ [(k, j)]) := by
  have h1 := h.below.size
  have hbs : w1.heap.size + 1 < wr.heap.size := (Array.getElem?_eq_some_iff.1 h.box).1
  obtain ⟨A', c', w5, hr, ho, hg⟩ := push_pair wr (w1.heap.size + 2) vl ps h.list (k, j) (by omega) (by omega)
  have hvb := owns_block2 h.list
  have hne : ∀ r, r < w1.heap.size + 2 → vl.ownBlock ≠ some r := fun r hr e => by have := (hvb r e).1; omega
  have hbox5 : w5.heap[w1.heap.size + 1]? = some (.cells #[vt, u, .map (some w1.heap.size), vl] 66 (0, 0)) := grown_cells hg h.box (hne _ (by omega))
  have hmap5 : MapP w5 w1.heap.size ps := h.map.kept hg (hne _ (by omega))
  have hbel5 : Below w1.heap.size w1 w5 := h.below.grown hg h1 (fun k hk => by have := (hvb k hk).1; omega)
  have hg6 := grown_setCell w5 (w1.heap.size + 1) 3 (.slice A' (ps.length + 1) c')
  have hmap6 : MapP (w5.setCell ⟨w1.heap.size + 1, 3, none⟩ (.slice A' (ps.length + 1) c')) w1.heap.size ps := hmap5.kept hg6 (fun e => by have := Option.some.inj e; omega)
  have hbox6 : (w5.setCell ⟨w1.heap.size + 1, 3, none⟩ (.slice A' (ps.length + 1) c')).heap[w1.heap.size + 1]? = some (.cells #[vt, u, .map (some w1.heap.size), .slice A' (ps.length + 1) c'] 66 (0, 0)) := by
    simp [World.setCell, Array.getElem?_modify, hbox5]
  have hlist6 : OwnP (w1.heap.size + 2) (w5.setCell ⟨w1.heap.size + 1, 3, none⟩ (.slice A' (ps.length + 1) c')) (.slice A' (ps.length + 1) c') (ps ++ [(k, j)]) := owns_keep ho fun r hr' => by
    obtain ⟨h2, C, hC⟩ := owns_block2 ho r hr'
    exact hg6.block r (Array.getElem?_eq_some_iff.1 hC).1 (fun e => by have := Option.some.inj e; omega)
  have hbel6 : Below w1.heap.size w1 (w5.setCell ⟨w1.heap.size + 1, 3, none⟩ (.slice A' (ps.length + 1) c')) := hbel5.grown hg6 hbel5.size (fun k hk => by have := Option.some.inj hk; omega)
  obtain ⟨w6, hrm, hm7, hg7⟩ := hmap6.put hs (by omega) hn
  have hne7 : ∀ {k : Nat} {C : Array Value} {e : TypeId} {fr : Nat × Nat}, (w5.setCell ⟨w1.heap.size + 1, 3, none⟩ (.slice A' (ps.length + 1) c')).heap[k]? = some (.cells C e fr) → (some w1.heap.size : Option Nat) ≠ some k := fun {k C e fr} hc e' => by
    obtain ⟨es, cl, hmo⟩ := hmap6.isMapObj
    have : w1.heap.size = k := Option.some.inj e'
    subst this
    rw [hmo] at hc; cases hc
  refine ⟨A', c', w5, w6, hr, ?_, ?_, ?_, hrm, hbel6.grown hg7 hbel6.size (fun k hk => by cases hk; exact Nat.le_refl _), grown_cells hg7 hbox6 (hne7 hbox6), hm7, owns_keep hlist6 fun r hr' => ?_⟩
  · rw [cell_of_row _ _ _ _ _ _ hbox5]; rfl
  · rw [cell_of_row _ _ _ _ _ _ hbox5]; rfl
  · simp [World.frozen?, hbox5]
  · obtain ⟨-, C, hC⟩ := owns_block2 hlist6 r hr'
    exact (grown_cells hg7 hC (hne7 hC)).trans hC.symm
theorem OfSt.first (w1 : World) (vt u : Value) : OfSt w1 (((w1.alloc (.map #[] 0)).alloc (.cells zero95 66)).setRow (w1.heap.size + 1) #[vt, u, .map (some w1.heap.size), .slice none 0 0]) vt u (.slice none 0 0) [] := by
  have hb1 : Below w1.heap.size w1 (w1.alloc (.map #[] 0)) := (Below.refl _ _).alloc (Nat.le_refl _) _
  have hm1 := MapP.made w1
  have hb2 : Below (w1.heap.size + 1) (w1.alloc (.map #[] 0)) ((w1.alloc (.map #[] 0)).alloc (.cells zero95 66)) := (Below.refl _ _).alloc (by simp) _
  have hnew := heap_alloc_new (w1.alloc (.map #[] 0)) (.cells zero95 66)
  rw [World.size_alloc] at hnew
  have hb3 : Below (w1.heap.size + 1) ((w1.alloc (.map #[] 0)).alloc (.cells zero95 66)) (((w1.alloc (.map #[] 0)).alloc (.cells zero95 66)).setRow (w1.heap.size + 1) #[vt, u, .map (some w1.heap.size), .slice none 0 0]) :=
    ⟨rfl, rfl, rfl, by rw [World.setRow]; simp, fun k hk => setRow_other _ _ k _ (by omega)⟩
  refine ⟨(hb1.trans (hb2.mono (Nat.le_succ _))).trans (hb3.mono (Nat.le_succ _)), setRow_heap _ _ _ _ _ _ hnew, ?_, World.ownsRow_nil _ _ _ _⟩
  exact (hm1.below (hb2.mono (by simp))).kept (row := some (w1.heap.size + 1)) ⟨hb3.os, hb3.tape, hb3.output, hb3.size, fun k hk hne => setRow_other _ _ k _ (fun e => hne (by rw [e]))⟩ (fun e => by have := Option.some.inj e; omega)
theorem dest_at {g : Nat} {t : Tb} (hg : TGood g t) (hs : Std t) {k j : Nat} (hk : k < t.length) (hj : j < g) : t.at k (2 * j) = (dest t k j : Int) ∧ dest t k j < t.length := by
  have h1 := hs.pos k hk (2 * j) (by rw [hg.len k hk]; omega)
  have h2 := (hg.bd k hk (2 * j) (by omega)).2
  unfold dest
  omega
set_option maxRecDepth 100000 in
set_option maxHeartbeats 2000000 in
theorem of68_good (w : World) (v : Value) (g : Nat) (t : Tb) (ht : Tab w v t) (hg : TGood g t) (hstd : std t 0 = some t) :
    Calls Tryz.prog 24 #[.int .i64 (g : Int), v] w fun e w' => (∃ vr bm vl, e = .returned (.tuple #[.agg #[v, vr, .map (some bm), vl], .int .i64 0]) ∧ SysAt w' v vr bm vl t (reps t) (pairs t (reps t) g)) ∧ Below w.heap.size w w' := by
  have hb0 : Below w.heap.size w (w.alloc (.cells zero95 66)) := (Below.refl _ _).alloc (Nat.le_refl _) _
  have hck := check_of_good hg
  have hre : repsE g t = (reps t, 0) := by unfold repsE; rw [hck, if_neg (by simp), if_pos hstd]
  have HC : Hid (Calls Tryz.prog 51 #[.int .i64 (g : Int), v] (w.alloc (.cells zero95 66)) fun e w' => (∃ u, e = .returned (.tuple #[u, .int .i64 0]) ∧ Hid (TabB (w.alloc (.cells zero95 66)).heap.size w' u (reps t))) ∧ Below (w.alloc (.cells zero95 66)).heap.size (w.alloc (.cells zero95 66)) w') :=
    Lib.hid ((reps50_good _ v g t (kept_tab.below ht hb0) hg).mono fun e w' ⟨⟨u, h1, h2⟩, h3⟩ => by
      rw [hre] at h1 h2
      exact ⟨⟨u, h1, Lib.hid h2⟩, h3⟩)
  have hg0 := heap_alloc_new w (.cells zero95 66)
  have hsz0 : (w.alloc (.cells zero95 66)).heap.size = w.heap.size + 1 := by simp
  have HG0 := Lib.hid hg0
  have HB0 := Lib.hid hb0
  have HS0 := Lib.hid hsz0
  have HSTD := Lib.hid (std_iff hstd)
  have HTAB := Lib.hid ht
  have HG := Lib.hid hg
  have HRL := Lib.hid (reps_length hg (std_iff hstd))
  have hg16 := hg.g16
  have hn2 := hg.n2
  have hg0' : (0 : Int) ≤ (g : Int) := Int.natCast_nonneg _
  have hg16' : (g : Int) ≤ 16 := by omega
  have hn0 : (0 : Int) ≤ (t.length : Int) := Int.natCast_nonneg _
  obtain ⟨A, c, rfl, hc1, hc2, hc⟩ := ht.open_
  clear hc ht hb0 hg0 hsz0 hck hre hstd hg
  generalize reps t = R at *
  have hmm : ∀ w, (Instr.makeMap 61 none).run Tryz.prog w = .ok (.map (some w.heap.size)) (w.alloc (.map #[] 0)) := fun _ => rfl
  go_enter Tryz.func24, Tryz.ntmps24
  go_wp2_with (first
    | ((with_reducible refine wpList_sel 4 ?_); refine wpList_val rfl (r_alloc95 rfl) ?_)
    | (go_at_call 51; (refine HC.out.mono ?_); rintro e w1 ⟨⟨u, rfl, HU⟩, hb⟩
       have HB1 := Lib.hid hb
       have HG1 : Hid (w1.heap[w.heap.size]? = some (.cells zero95 66 (0, 0))) := Lib.hid ((hb.block _ (by rw [HS0.out]; omega)).trans HG0.out)
       have HN1 := Lib.hid (heap_alloc_new (w1.alloc (.map #[] 0)) (.cells zero95 66))
       have HOF := Lib.hid (OfSt.first w1 (.slice A t.length c) u)
       obtain ⟨Au, cu, rfl, hu1, hu2, hu3⟩ := HU.out.at_.open_
       clear hb hu3)
    | ((with_reducible refine wpList_sel 8 ?_); refine wpList_val rfl (r_alloc95 rfl) ?_; refine wpList_skip rfl (r_store95 (.tmp 8) (.tmp 27) rfl (w1.heap.size + 1) zero95 #[.slice A t.length c, .slice Au R.length cu, .map (some w1.heap.size), .slice none 0 0] (by rw [World.size_alloc]; rfl) rfl (by have := HN1.out; rw [World.size_alloc] at this; exact this) rfl rfl (one95 _ _ _ _ _ _ _ _ _ _)) ?_))
  have hW : Below w.heap.size w w1 := HB0.out.trans (HB1.out.mono HB0.out.size)
  have hw1 : w.heap.size < w1.heap.size := (Array.getElem?_eq_some_iff.1 HG1.out).1
  have HW := Lib.hid hW
  clear hW
  go_loopw [30] (fun i wr => ∃ k : Nat, i = .int .i64 k ∧ k ≤ t.length ∧ Hid (∃ vl, OfSt w1 wr (.slice A t.length c) (.slice Au R.length cu) vl (pairTo t R g k))) (fun i _ => t.length - (intOf i).toNat)
  case atStart => exact ⟨0, rfl, by omega, Lib.hid ⟨_, HOF.out⟩⟩
  case round =>
    clear HOF
    obtain ⟨k, rfl, hk, HS⟩ := hrel
    have hk0 : (0 : Int) ≤ (k : Int) := Int.natCast_nonneg _
    by_cases hlt : k < t.length
    · have hlt' : (k : Int) < (t.length : Int) := by omega
      go_wp2_with fail
      go_loopw [10] (fun i wr => ∃ j : Nat, i = .int .i64 ((j : Int) + 1) ∧ j ≤ g ∧ Hid (∃ vl, OfSt w1 wr (.slice A t.length c) (.slice Au R.length cu) vl (pairRow t R k j (pairTo t R g k)))) (fun i _ => g + 1 - (intOf i).toNat)
      case atStart => exact ⟨0, rfl, by omega, Lib.hid HS.out⟩
      case round =>
        clear HS
        obtain ⟨j, rfl, hj, HS⟩ := hrel
        have hj0 : (0 : Int) ≤ (j : Int) := Int.natCast_nonneg _
        by_cases hjl : j < g
        · have hjl3 : (j : Int) + 1 ≤ (g : Int) := by omega
          obtain ⟨vl, hS⟩ := HS.out
          obtain ⟨Al, cl, e9⟩ := owns_form2 hS.list
          subst e9
          have HSX := Lib.hid hS
          obtain ⟨hda, hdl⟩ := dest_at HG.out HSTD.out hlt hjl
          obtain ⟨p0, p1, p2, p3⟩ := box_cells hS.box
          have hkR : k < R.length := by rw [HRL.out.1]; exact hlt
          have hdR : dest t k j < R.length := by rw [HRL.out.1]; exact hdl
          have hwl : ∀ i, (R.getD i []).length ≤ 100000 := fun i => by
            rcases Nat.lt_or_ge i t.length with hi | hi
            · have := HRL.out.2 i hi; omega
            · rw [List.getD_eq_getElem?_getD, List.getElem?_eq_none (by rw [HRL.out.1]; exact hi)]; simp
          have HSTP : Hid (∀ W, Below w1.heap.size w1 W → Calls Tryz.prog 25 #[.agg #[.slice A t.length c, .slice Au R.length cu], .int .i64 (k : Int), .int .i64 ((j : Int) + 1)] W fun e w' => e = .returned (.int .i64 (dest t k j : Int)) ∧ Below W.heap.size W w') := Lib.hid fun W hW => by
            have := step70_any W (.slice A t.length c) Au R.length cu t k ((j : Int) + 1) (2 * j) (kept_tab.below HTAB.out (HW.out.trans (hW.mono HW.out.size))) hlt (by rw [HG.out.len k hlt]; omega) (.inl ⟨by omega, by omega⟩) ⟨by omega, by omega⟩
            rw [hda] at this
            exact this
          have HGR : Hid (∀ (W : World) (A9 : Option Addr) (n9 c9 : Nat) (r to : Nat) (x : Int), Below w1.heap.size w1 W → r < R.length → to < R.length → (-1000 ≤ x ∧ x ≤ 1000) → Calls Tryz.prog 52 #[.agg #[.slice A t.length c, .slice Au R.length cu, .map (some w1.heap.size), .slice A9 n9 c9], .int .i64 (r : Int), .int .i64 x, .int .i64 (to : Int)] W fun e w' => e = .returned (.bool (decide (R.getD to [] = R.getD r [] ++ [x]))) ∧ Below W.heap.size W w') := Lib.hid fun W A9 n9 c9 r to x hW h1 h2 h3 =>
            grows114_any W (.slice Au R.length cu) A A9 t.length c n9 c9 w1.heap.size R r to x (kept_tab.below HU.out.at_ hW) h1 h2 hwl h3
          have HNT : Hid (nt t R k j = (!(decide (R.getD (dest t k j) [] = R.getD k [] ++ [(j : Int) + 1])) && !(decide (R.getD k [] = R.getD (dest t k j) [] ++ [-((j : Int) + 1)])))) := Lib.hid rfl
          have hpn := pair_new t R g k j
          have hpl : (pairRow t R k j (pairTo t R g k)).length ≤ 100000 → True := fun _ => trivial
          have hpl2 : (pairRow t R k j (pairTo t R g k)).length ≤ 400000 := by
            have h1 := (pairRow_length t R k j (pairTo t R g k)).2
            have h2 := pairTo_length t R g k
            have h3 : k * g ≤ 20000 * 16 := Nat.mul_le_mul (by omega) hg16
            omega
          have HROW : Hid (pairRow t R k (j + 1) (pairTo t R g k) = if nt t R k j then pairRow t R k j (pairTo t R g k) ++ [(k, j)] else pairRow t R k j (pairTo t R g k)) := Lib.hid rfl
          clear hS hda hwl hpl HS
          generalize pairRow t R k j (pairTo t R g k) = ps at *
          by_cases hb1 : R.getD (dest t k j) [] = R.getD k [] ++ [(j : Int) + 1]
          · have HR2 : Hid (pairRow t R k (j + 1) (pairTo t R g k) = ps) := Lib.hid (by rw [HROW.out, HNT.out, decide_eq_true hb1]; rfl)
            have HB9 := Lib.hid (decide_eq_true hb1)
            clear hb1 hpn
            go_wp2_with (first
              | (go_at_call 25; (refine (HSTP.out _ HSX.out.below).mono ?_); rintro e w2 ⟨rfl, hb⟩
                 have HS2 := Lib.hid (HSX.out.below' hb)
                 obtain ⟨q0, q1, q2, q3⟩ := box_cells HS2.out.box
                 clear hb)
              | (go_at_call 52; (refine (HGR.out _ _ _ _ _ _ _ HS2.out.below hkR hdR ⟨by omega, by omega⟩).mono ?_); rintro e w3 ⟨rfl, hb⟩
                 have HS3 := Lib.hid (HS2.out.below' hb)
                 rw [HB9.out]
                 clear hb))
            go_roundw
            case rel => exact ⟨j + 1, by go_num, by omega, Lib.hid ⟨_, by rw [HR2.out]; exact HS3.out⟩⟩
            case measure => simp [intOf]; omega
          · have HB9 := Lib.hid (decide_eq_false hb1)
            by_cases hb2 : R.getD k [] = R.getD (dest t k j) [] ++ [-((j : Int) + 1)]
            · have HR2 : Hid (pairRow t R k (j + 1) (pairTo t R g k) = ps) := Lib.hid (by rw [HROW.out, HNT.out, decide_eq_false hb1, decide_eq_true hb2]; rfl)
              have HB8 := Lib.hid (decide_eq_true hb2)
              clear hb1 hb2 hpn
              go_wp2_with (first
                | (go_at_call 25; (refine (HSTP.out _ HSX.out.below).mono ?_); rintro e w2 ⟨rfl, hb⟩
                   have HS2 := Lib.hid (HSX.out.below' hb)
                   obtain ⟨q0, q1, q2, q3⟩ := box_cells HS2.out.box
                   have tok0 : True := trivial
                   clear hb)
                | (go_at_call 52
                   have _t := tok0
                   (refine (HGR.out _ _ _ _ _ _ _ HS2.out.below hkR hdR ⟨by omega, by omega⟩).mono ?_); rintro e w3 ⟨rfl, hb⟩
                   have HS3 := Lib.hid (HS2.out.below' hb)
                   obtain ⟨s0, s1, s2, s3⟩ := box_cells HS3.out.box
                   rw [HB9.out]
                   clear hb tok0)
                | (go_at_call 52; (refine (HGR.out _ _ _ _ _ _ _ HS3.out.below hdR hkR ⟨by omega, by omega⟩).mono ?_); rintro e w4 ⟨rfl, hb⟩
                   have HS4 := Lib.hid (HS3.out.below' hb)
                   rw [HB8.out]
                   clear hb))
              go_roundw
              case rel => exact ⟨j + 1, by go_num, by omega, Lib.hid ⟨_, by rw [HR2.out]; exact HS4.out⟩⟩
              case measure => simp [intOf]; omega
            · have HR2 : Hid (pairRow t R k (j + 1) (pairTo t R g k) = ps ++ [(k, j)]) := Lib.hid (by rw [HROW.out, HNT.out, decide_eq_false hb1, decide_eq_false hb2]; rfl)
              have HB8 := Lib.hid (decide_eq_false hb2)
              have HPN := Lib.hid hpn
              clear hb1 hb2 hpn
              go_wp2_with (first
                | (go_at_call 25; (refine (HSTP.out _ HSX.out.below).mono ?_); rintro e w2 ⟨rfl, hb⟩
                   have HS2 := Lib.hid (HSX.out.below' hb)
                   obtain ⟨q0, q1, q2, q3⟩ := box_cells HS2.out.box
                   have tok0 : True := trivial
                   clear hb)
                | (go_at_call 52
                   have _t := tok0
                   (refine (HGR.out _ _ _ _ _ _ _ HS2.out.below hkR hdR ⟨by omega, by omega⟩).mono ?_); rintro e w3 ⟨rfl, hb⟩
                   have HS3 := Lib.hid (HS2.out.below' hb)
                   obtain ⟨s0, s1, s2, s3⟩ := box_cells HS3.out.box
                   rw [HB9.out]
                   clear hb tok0)
                | (go_at_call 52; (refine (HGR.out _ _ _ _ _ _ _ HS3.out.below hdR hkR ⟨by omega, by omega⟩).mono ?_); rintro e w4 ⟨rfl, hb⟩
                   have HS4 := Lib.hid (HS3.out.below' hb)
                   rw [HB8.out]
                   obtain ⟨A', c', w5, w6, hra, z2, z3, zf, hrm, hS6⟩ := HS4.out.add (k := k) (j := j) ⟨by omega, by omega⟩ HPN.out (by omega)
                   obtain ⟨r0, r1, r2, r3⟩ := box_cells HS4.out.box
                   have HRA := Lib.hid hra
                   have HRM := Lib.hid hrm
                   have HS6 := Lib.hid hS6
                   clear hra hrm hS6
                   clear hb)
                | ((with_reducible refine wpList_sel 65 ?_); refine wpList_val rfl (r_app (.tmp 60) (.tmp 64) 62 rfl rfl rfl HRA.out) ?_)
                | ((with_reducible refine wpList_selMu 61 70 73 77 ?_); refine wpList_skip rfl (r_mu 61 (.tmp 70) (.tmp 73) (.tmp 77) rfl rfl rfl rfl HRM.out) ?_))
              go_roundw
              case rel => exact ⟨j + 1, by go_num, by omega, Lib.hid ⟨_, by rw [HR2.out]; exact HS6.out⟩⟩
              case measure => simp [intOf]; omega
        · obtain rfl : j = g := by omega
          have HK2 : Hid (pairTo t R j (k + 1) = pairRow t R k j (pairTo t R j k)) := Lib.hid rfl
          rw [← HK2.out] at HS
          go_wp2_with fail
          go_roundw
          case rel => exact ⟨k + 1, by go_num, by omega, HS⟩
          case measure => simp [intOf]; omega
    · obtain rfl : k = t.length := by omega
      rename World => wz
      obtain ⟨vl, hS⟩ := HS.out
      obtain ⟨p0, p1, p2, p3⟩ := box_cells hS.box
      have hG1 := (hS.below.block w.heap.size hw1).trans HG1.out
      have HGZ := Lib.hid hG1
      have HSX := Lib.hid hS
      obtain ⟨Al, cl, e9⟩ := owns_form2 hS.list
      subst e9
      clear hG1 hS HS
      go_wp2_with ((with_reducible refine wpList_sel 79 ?_); refine wpList_val rfl (r_load95 (.tmp 8) (w1.heap.size + 1) _ _ _ _ rfl rfl HSX.out.box) ?_; refine wpList_skip rfl (r_store95 (.tmp 4) (.tmp 79) rfl w.heap.size zero95 _ rfl rfl HGZ.out rfl rfl (one95 _ _ _ _ _ _ _ _ _ _)) ?_)
      try simp only [Exit.inBlock, Exit.then]
      refine bodyPost_ret (results_95_tmp (p := 4) (q := 5) rfl _ _ w.heap.size _ (.int .i64 0) rfl rfl (setRow_heap _ _ _ _ _ _ HGZ.out) rfl) rfl ⟨⟨_, _, _, rfl, ?_⟩, ?_⟩
      · have hne : ∀ k, k ≠ w.heap.size → (wz.setRow w.heap.size #[.slice A t.length c, .slice Au R.length cu, .map (some w1.heap.size), .slice Al (pairTo t R g t.length).length cl]).heap[k]? = wz.heap[k]? := fun k hk => setRow_other _ _ k _ hk
        have hgr : wz.grownBy (wz.setRow w.heap.size #[.slice A t.length c, .slice Au R.length cu, .map (some w1.heap.size), .slice Al (pairTo t R g t.length).length cl]) (some w.heap.size) := ⟨rfl, rfl, rfl, by rw [World.setRow]; simp, fun k _ hk => hne k (fun e => hk (by rw [e]))⟩
        refine ⟨?_, ?_, HSX.out.map.kept hgr (fun e => by have := Option.some.inj e; omega), w1.heap.size + 2, owns_keep HSX.out.list fun r hr => hne r (by have := (owns_block2 HSX.out.list r hr).1; omega)⟩
        · exact kept_tab _ _ _ _ (fun k hk => (hne k (by omega)).trans ((HSX.out.below.block k (by omega)).trans (HW.out.block k hk))) HTAB.out
        · exact HU.out _ fun k h1 h2 => (hne k (by have := HS0.out; omega)).trans (HSX.out.below.block k h2)
      · exact (HW.out.trans (HSX.out.below.mono HW.out.size)).trans ⟨rfl, rfl, rfl, by rw [World.setRow]; simp, fun k hk => setRow_other _ _ k _ (by omega)⟩
end Go.Proofs
namespace Go.Proofs
open Go.RowKit Go.Shelf Go.Proofs.Ct Go.Maps
def countE (g : Int) (t : Tb) : Int := if (repsE g t).2 = 0 then ((pairs t (reps t) g.toNat).length : Int) else 0
theorem OwnP.form {base : Nat} {w : World} {v : Value} {ps : List (Nat × Nat)} (h : OwnP base w v ps) : ∃ A c, v = .slice A ps.length c := owns_form2 h
theorem Tab.form {w : World} {v : Value} {xs : List (List Int)} (h : Tab w v xs) : ∃ A c, v = .slice A xs.length c := let ⟨A, c, e, _⟩ := h.open_; ⟨A, c, e⟩
theorem below_boxed {w w1 : World} (hb : Below w.heap.size w w1) (o : Obj) (cs : Array Value) : Below w.heap.size w ((w1.alloc o).setRow w1.heap.size cs) := by
  have h1 := hb.size
  have h2 : Below w.heap.size w (w1.alloc o) := hb.alloc h1 _
  exact h2.trans ⟨rfl, rfl, rfl, by rw [World.setRow]; simp, fun k hk => setRow_other _ _ k _ (by omega)⟩
set_option maxRecDepth 100000 in
set_option maxHeartbeats 1000000 in
theorem count16_any (w : World) (v : Value) (g : Int) (t : Tb) (ht : Tab w v t) :
    Calls Tryz.prog 8 #[.int .i64 g, v] w fun e w' => e = .returned (.tuple #[.int .i64 (countE g t), .int .i64 (repsE g t).2]) ∧ Below w.heap.size w w' := by
  by_cases he : (repsE g t).2 = 0
  · obtain ⟨gn, rfl, hg, hstd, hre⟩ := repsE_good he
    have HC := Lib.hid (of68_good w v gn t ht hg hstd)
    have HE : Hid (countE gn t = ((pairs t (reps t) gn).length : Int)) := Lib.hid (by unfold countE; rw [if_pos he]; rfl)
    rw [he]
    obtain ⟨A, c, rfl⟩ := Tab.form ht
    clear ht hg hstd hre he
    go_enter Tryz.func8, Tryz.ntmps8
    go_wp2_with (first
      | (go_at_call 24; (refine HC.out.mono ?_); rintro e w1 ⟨⟨vr, bm, vl, rfl, hS⟩, hb⟩
         obtain ⟨Ar, cr, rfl⟩ := Tab.form hS.reps
         obtain ⟨base, hl⟩ := hS.list
         obtain ⟨Al, cl, rfl⟩ := OwnP.form hl
         have HN1 := Lib.hid (heap_alloc_new w1 (.cells zero95 66))
         have HB1 := Lib.hid hb
         have HX := Lib.hid (box_cells (setRow_heap (w1.alloc (.cells zero95 66)) w1.heap.size zero95 #[.slice A t.length c, .slice Ar (reps t).length cr, .map (some bm), .slice Al (pairs t (reps t) gn).length cl] 66 (0, 0) HN1.out))
         clear hb hS hl)
      | ((with_reducible refine wpList_sel 6 ?_); refine wpList_val rfl (r_alloc95 rfl) ?_; refine wpList_skip rfl (r_store95 (.tmp 6) (.tmp 12) rfl w1.heap.size zero95 #[.slice A t.length c, .slice Ar (reps t).length cr, .map (some bm), .slice Al (pairs t (reps t) gn).length cl] rfl rfl HN1.out rfl rfl (one95 _ _ _ _ _ _ _ _ _ _)) ?_
         have hx := HX.out.2.2.2))
    go_ret2
    exact ⟨ret_pair HE.out.symm rfl, below_boxed HB1.out _ _⟩
  · have HC := Lib.hid (of68_bad w v g t ht he)
    have HE : Hid (countE g t = 0) := Lib.hid (by unfold countE; rw [if_neg he])
    obtain ⟨A, c, rfl⟩ := Tab.form ht
    generalize (repsE g t).2 = x at *
    clear ht he
    go_enter Tryz.func8, Tryz.ntmps8
    go_wp2_with (first
      | (go_at_call 24; (refine HC.out.mono ?_); rintro e w1 ⟨rfl, hb⟩
         have HN1 := Lib.hid (heap_alloc_new w1 (.cells zero95 66))
         have HB1 := Lib.hid hb
         have HX := Lib.hid (box_cells (setRow_heap (w1.alloc (.cells zero95 66)) w1.heap.size zero95 zero95 66 (0, 0) HN1.out))
         clear hb)
      | ((with_reducible refine wpList_sel 6 ?_); refine wpList_val rfl (r_alloc95 rfl) ?_; refine wpList_skip rfl (r_store95 (.tmp 6) (.tmp 12) rfl w1.heap.size zero95 zero95 rfl rfl HN1.out rfl rfl zero95_one) ?_
         have hx := HX.out.2.2.2))
    go_ret2
    exact ⟨ret_pair HE.out.symm rfl, below_boxed HB1.out _ _⟩
end Go.Proofs
namespace Go.Proofs
open Go.RowKit Go.Shelf Go.Proofs.Ct Go.Maps
section
variable {ops : Array Oper} {o : Oper} {a : Act} {w w' : World} {K : Act → World → Prop} {Q : Exit → Act → World → Prop} {E : Prop} {v : Value}
theorem step_sel (s : Nat) {op : Op} {t : TypeId} {p : String} {af : Array Edge} {g : Option (Nat × Bool)} (h : if Region.wanted ⟨some s, op, t, p, af, g⟩ (yielded ops a.tmps) = true then Oper.wp Tryz.prog ⟨some s, op, t, p, af, g⟩ a w K Q else E) : if Region.wanted ⟨some s, op, t, p, af, g⟩ (yielded ops a.tmps) = true then Oper.wp Tryz.prog ⟨some s, op, t, p, af, g⟩ a w K Q else E := h
theorem step_val (hgd : o.guard = none) (hr : (execOp a.eval o).run Tryz.prog w = .ok (.value v) w') (h : K (a.put o.dst v) w') : if Region.wanted o (yielded ops a.tmps) = true then Oper.wp Tryz.prog o a w K Q else E := by
  have hw : Region.wanted o (yielded ops a.tmps) = true := by simp [Region.wanted, hgd]
  rw [if_pos hw]
  unfold Oper.wp
  rw [hr]
  exact h
theorem step_app_ints (t : TypeId) (ht : Tryz.prog.underlying t = some (.slice 3)) (s x : Operand) (hgd : o.guard = none) (ho : o.op = .call { callee := .builtin .append, args := #[s, x], argTypes := #[t, t] }) (base : Nat) (v u : Value) (xs ys : List Int) (hs : a.eval s = v) (hx : a.eval x = u)
    (h : OwnI base w v xs) (hu : IntsAt w u ys) (h1 : xs.length ≤ 1000000) (h2 : ys.length ≤ 1000000) (hb : base ≤ w.heap.size)
    (hK : ∀ A' c' w', OwnI base w' (.slice A' (xs ++ ys).length c') (xs ++ ys) → w.grownBy w' v.ownBlock → K (a.put o.dst (.slice A' (xs ++ ys).length c')) w') : if Region.wanted o (yielded ops a.tmps) = true then Oper.wp Tryz.prog o a w K Q else E := by
  obtain ⟨A', c', w', hr, ho', hg, -⟩ := run_append_ints o.type t ht w base v u xs ys h hu h1 h2 hb
  exact step_val hgd (r_app s x t ho hs hx hr) (hK A' c' w' ho' hg)
end
theorem OutSt2.done' {t e : TypeId} (he : e ≠ 3) (ht : Tryz.prog.underlying t = some (.slice e)) (hi : ∃ i, Tryz.prog.info? e = some i ∧ i.zero = some (.slice none 0 0) ∧ i.size = 1 ∧ i.bytes = 24) {F : Nat → Prop} {w0 wr : World} {vout : Value} {A : Option Addr} {n c : Nat} {rows : List (List Int)} {x : List Int} (h : OutSt2 e F w0 wr vout (.slice A n c) rows x) (hf : Fits x) (hl : rows.length ≤ 1000000) :
    ∃ A' c' w', (Builtin.append_ #[t, t] t #[vout, .slice (some ⟨wr.heap.size, 0, none⟩) 1 1]).run Tryz.prog (wr.alloc (.cells #[.slice A n c] e)) = .ok (.slice A' (rows.length + 1) c') w' ∧
      OutSt e (fun k => F k ∨ (Value.slice A n c).ownBlock = some k) w0 w' (.slice A' (rows.length + 1) c') (rows ++ [x]) ∧ wr.grownBy w' vout.ownBlock := by
  have hub := h.st.out.block
  have hrb := owns_block h.row
  have hne : ∀ {k : Nat} {C : Array Value} {fr : Nat × Nat}, wr.heap[k]? = some (.cells C 3 fr) → vout.ownBlock ≠ some k := fun {k C fr} hc e' => by
    obtain ⟨-, C', hC'⟩ := hub k e'
    rw [hc] at hC'
    injection hC' with h5
    injection h5 with _ h6 _
    exact he h6.symm
  have hF2 : ∀ k, (F k ∨ (Value.slice A n c).ownBlock = some k) → k < wr.heap.size ∧ vout.ownBlock ≠ some k := fun k hk => by
    rcases hk with hk | hk
    · obtain ⟨h1, h2, C, hC⟩ := h.st.fs k hk
      exact ⟨h2, hne hC⟩
    · obtain ⟨h1, C, hC⟩ := hrb k hk
      exact ⟨(Array.getElem?_eq_some_iff.1 hC).1, hne hC⟩
  obtain ⟨A', c', w', hr, ho', hg, hw⟩ := push_row (ty := t) ht hi wr w0.heap.size (fun k => F k ∨ (Value.slice A n c).ownBlock = some k) vout rows (h.st.out.keep (fun _ _ => rfl) (Ag.refl _ _) (fun k hk => .inl hk)) A n c x ((IntsF.of_own h.row hf).mono fun k hk => .inr hk) hF2 (by omega) h.st.below.size
  refine ⟨A', c', w', hr, ⟨h.st.below.grown hg h.st.below.size (fun k hk => (hub k hk).1), ho', fun k hk => ?_⟩, hg⟩
  have h2 := (hF2 k hk).1
  rcases hk with hk | hk
  · obtain ⟨h1, _, C, hC⟩ := h.st.fs k hk
    exact ⟨h1, Nat.lt_of_lt_of_le h2 hg.size, C, grown_cells hg hC (hne hC)⟩
  · obtain ⟨h1, C, hC⟩ := hrb k hk
    exact ⟨h1, Nat.lt_of_lt_of_le h2 hg.size, C, grown_cells hg hC (hne hC)⟩
theorem ints_one (w : World) (z : Int) (hz : -9223372036854775808 ≤ z ∧ z ≤ 9223372036854775807) : IntsAt (w.alloc (.cells #[.int .i64 z] 3)) (.slice (some ⟨w.heap.size, 0, none⟩) 1 1) [z] := by
  refine ⟨⟨_, 1, 1, rfl, rfl, Nat.le_refl _, by simp [maxLen], fun _ => ⟨w.heap.size, 0, rfl, fun j u hu => ?_⟩⟩, fun x hx => ?_⟩
  · rw [cell_of_row _ _ _ _ _ _ (heap_alloc_new w _), Nat.zero_add]
    simpa [ints] using hu
  · have : x = z := by simpa using hx
    rw [this]; exact hz
def gensTo (t : Tb) (R : List W) (ps : List (Nat × Nat)) (k : Nat) : List W := (List.range k).map fun i => schr t R (ps.getD i (0, 0))
theorem length_gensTo (t : Tb) (R : List W) (ps : List (Nat × Nat)) (k : Nat) : (gensTo t R ps k).length = k := by simp [gensTo]
theorem gensTo_succ (t : Tb) (R : List W) (ps : List (Nat × Nat)) (k : Nat) : gensTo t R ps (k + 1) = gensTo t R ps k ++ [schr t R (ps.getD k (0, 0))] := by simp [gensTo, List.range_succ]
def gensE (g : Int) (t : Tb) : List W × Int :=
  if (repsE g t).2 ≠ 0 then ([], (repsE g t).2) else
  if 1000 < (pairs t (reps t) g.toNat).length then ([], 5) else (gensTo t (reps t) (pairs t (reps t) g.toNat) (pairs t (reps t) g.toNat).length, 0)
def GensPost (g : Int) (t : Tb) (w : World) (e : Ending) (w' : World) : Prop := (∃ u, e = .returned (.tuple #[u, .int .i64 (gensE g t).2]) ∧ TabB w.heap.size w' u (gensE g t).1) ∧ Below w.heap.size w w'
set_option maxRecDepth 100000 in
set_option maxHeartbeats 1000000 in
theorem gens18_bad (w : World) (v : Value) (g : Int) (t : Tb) (ht : Tab w v t) (he : (repsE g t).2 ≠ 0) : Calls Tryz.prog 9 #[.int .i64 g, v] w (GensPost g t w) := by
  have HC := Lib.hid (of68_bad w v g t ht he)
  have HE : Hid (gensE g t = ([], (repsE g t).2)) := Lib.hid (by unfold gensE; rw [if_pos he])
  have d1 : ((repsE g t).2 != 0) = true := by simpa using he
  obtain ⟨A, c, rfl⟩ := Tab.form ht
  generalize (repsE g t).2 = x at *
  clear ht he
  go_enter Tryz.func9, Tryz.ntmps9
  go_wp2_with (first
    | (go_at_call 24; (refine HC.out.mono ?_); rintro e w1 ⟨rfl, hb⟩
       have HN1 := Lib.hid (heap_alloc_new w1 (.cells zero95 66))
       have HB1 := Lib.hid hb
       clear hb)
    | ((with_reducible refine wpList_sel 6 ?_); refine wpList_val rfl (r_alloc95 rfl) ?_; refine wpList_skip rfl (r_store95 (.tmp 6) (.tmp 16) rfl w1.heap.size zero95 zero95 rfl rfl HN1.out rfl rfl zero95_one) ?_))
  go_ret2
  exact ⟨⟨.slice none 0 0, ret_of2 rfl (by rw [HE.out]), by rw [HE.out]; exact TabB.nil⟩, below_boxed HB1.out _ _⟩
set_option maxRecDepth 100000 in
set_option maxHeartbeats 2000000 in
theorem gens18_good (w : World) (v : Value) (g : Nat) (t : Tb) (ht : Tab w v t) (hg : TGood g t) (hstd : std t 0 = some t) : Calls Tryz.prog 9 #[.int .i64 (g : Int), v] w (GensPost g t w) := by
  have hck := check_of_good hg
  have hre : repsE g t = (reps t, 0) := by unfold repsE; rw [hck, if_neg (by simp), if_pos hstd]
  have HC := Lib.hid (of68_good w v g t ht hg hstd)
  have HE1 : Hid (1000 < (pairs t (reps t) g).length → gensE g t = ([], 5)) := Lib.hid fun h => by unfold gensE; rw [hre, if_neg (by simp), if_pos (by simpa using h)]
  have HE2 : Hid (¬ 1000 < (pairs t (reps t) g).length → gensE g t = (gensTo t (reps t) (pairs t (reps t) g) (pairs t (reps t) g).length, 0)) := Lib.hid fun h => by unfold gensE; rw [hre, if_neg (by simp), if_neg (by simpa using h)]; rfl
  have HSTD := Lib.hid (std_iff hstd)
  have HG := Lib.hid hg
  have HRL := Lib.hid (reps_length hg (std_iff hstd))
  have hmild : ∀ j, ∀ x ∈ (reps t).getD j [], Mild x := fun j x hx => by
    have := reps_letter hg j x hx
    have := hg.g16
    unfold Mild
    omega
  have HML := Lib.hid hmild
  clear hmild
  have hg16 := hg.g16
  have hn2 := hg.n2
  have HPM : Hid (∀ p ∈ pairs t (reps t) g, p.1 < t.length ∧ p.2 < g) := Lib.hid fun p hp => pairs_mem hp
  obtain ⟨A, c, rfl⟩ := Tab.form ht
  clear ht hstd hck hre hg
  generalize reps t = R at *
  generalize pairs t R g = ps at *
  by_cases hbig : 1000 < ps.length
  · have hbI : (1000 : Int) < (ps.length : Int) := by omega
    have HZ := Lib.hid (HE1.out hbig)
    clear hbig
    go_enter Tryz.func9, Tryz.ntmps9
    go_wp2_with (first
      | (go_at_call 24; (refine HC.out.mono ?_); rintro e w1 ⟨⟨vr, bm, vl, rfl, hS⟩, hb⟩
         obtain ⟨Ar, cr, rfl⟩ := Tab.form hS.reps
         obtain ⟨base, hl⟩ := hS.list
         obtain ⟨Al, cl, rfl⟩ := OwnP.form hl
         have HN1 := Lib.hid (heap_alloc_new w1 (.cells zero95 66))
         have HB1 := Lib.hid hb
         have HX := Lib.hid (box_cells (setRow_heap (w1.alloc (.cells zero95 66)) w1.heap.size zero95 #[.slice A t.length c, .slice Ar R.length cr, .map (some bm), .slice Al ps.length cl] 66 (0, 0) HN1.out))
         clear hb hS hl)
      | ((with_reducible refine wpList_sel 6 ?_); refine wpList_val rfl (r_alloc95 rfl) ?_; refine wpList_skip rfl (r_store95 (.tmp 6) (.tmp 16) rfl w1.heap.size zero95 #[.slice A t.length c, .slice Ar R.length cr, .map (some bm), .slice Al ps.length cl] rfl rfl HN1.out rfl rfl (one95 _ _ _ _ _ _ _ _ _ _)) ?_
         have hx := HX.out.2.2.2))
    go_ret2
    exact ⟨⟨.slice none 0 0, ret_of2 rfl (by rw [HZ.out]), by rw [HZ.out]; exact TabB.nil⟩, below_boxed HB1.out _ _⟩
  · have hbI : ¬ (1000 : Int) < (ps.length : Int) := by omega
    have hbN : (ps.length : Int) ≤ 1000 := by omega
    have HZ := Lib.hid (HE2.out hbig)
    clear hbig
    go_enter Tryz.func9, Tryz.ntmps9
    go_wp2_with (first
      | (go_at_call 24; (refine HC.out.mono ?_); rintro e w1 ⟨⟨vr, bm, vl, rfl, hS⟩, hb⟩
         obtain ⟨Ar, cr, rfl⟩ := Tab.form hS.reps
         obtain ⟨base, hl⟩ := hS.list
         obtain ⟨Al, cl, rfl⟩ := OwnP.form hl
         have HN1 := Lib.hid (heap_alloc_new w1 (.cells zero95 66))
         have HB1 := Lib.hid hb
         have HX := Lib.hid (box_cells (setRow_heap (w1.alloc (.cells zero95 66)) w1.heap.size zero95 #[.slice A t.length c, .slice Ar R.length cr, .map (some bm), .slice Al ps.length cl] 66 (0, 0) HN1.out))
         have HS := Lib.hid hS
         clear hb hS hl)
      | ((with_reducible refine wpList_sel 6 ?_); refine wpList_val rfl (r_alloc95 rfl) ?_; refine wpList_skip rfl (r_store95 (.tmp 6) (.tmp 16) rfl w1.heap.size zero95 #[.slice A t.length c, .slice Ar R.length cr, .map (some bm), .slice Al ps.length cl] rfl rfl HN1.out rfl rfl (one95 _ _ _ _ _ _ _ _ _ _)) ?_
         have hx := HX.out.2.2.2))
    clear hx
    have hbx : Below w1.heap.size w1 ((w1.alloc (.cells zero95 66)).setRow w1.heap.size #[.slice A t.length c, .slice Ar R.length cr, .map (some bm), .slice Al ps.length cl]) := below_boxed (Below.refl _ _) _ _
    have hsz : ((w1.alloc (.cells zero95 66)).setRow w1.heap.size #[.slice A t.length c, .slice Ar R.length cr, .map (some bm), .slice Al ps.length cl]).heap.size = w1.heap.size + 1 := by rw [World.setRow]; simp
    have HSZ := Lib.hid hsz
    have HBX := Lib.hid hbx
    have HS2 := Lib.hid (HS.out.below hbx)
    clear hbx hsz
    generalize hw2 : (w1.alloc (.cells zero95 66)).setRow w1.heap.size #[.slice A t.length c, .slice Ar R.length cr, .map (some bm), .slice Al ps.length cl] = w2 at *
    clear hw2
    have HOT := Lib.hid (OutSt.nil 39 (Below.refl w2.heap.size w2))
    go_loopw [8, 30] (fun so i wr => ∃ k : Nat, i = .int .i64 k ∧ k ≤ ps.length ∧ ∃ F A c, so = .slice A k c ∧ Hid (OutSt 39 F w2 wr so (gensTo t R ps k))) (fun _ i _ => ps.length - (intOf i).toNat)
    case atStart => exact ⟨0, rfl, by omega, _, none, 0, rfl, HOT⟩
    case round =>
      clear HOT
      obtain ⟨k, rfl, hk, F, A9, c9, rfl, HST⟩ := hrel
      have hk0 : (0 : Int) ≤ (k : Int) := Int.natCast_nonneg _
      by_cases hlt : k < ps.length
      · have hlt' : (k : Int) < (ps.length : Int) := by omega
        obtain ⟨base, hl⟩ := HS2.out.list
        have hmem : ps.getD k (0, 0) ∈ ps := by rw [List.getD_eq_getElem?_getD, List.getElem?_eq_getElem hlt]; exact List.getElem_mem hlt
        have hpm := HPM.out _ hmem
        have hcp : ∃ b, Al = some ⟨b, 0, none⟩ ∧ w2.cell? ⟨b, k * 2, none⟩ = some (.int .i64 ((ps.getD k (0, 0)).1 : Int)) ∧ w2.cell? ⟨b, k * 2 + 1, none⟩ = some (.int .i64 (((ps.getD k (0, 0)).2 : Int) + 1)) := by
          have hpc := pcells_get ps k hlt
          rcases hl.2 with ⟨e, h0⟩ | ⟨g1, cap, cur, e, -⟩
          · omega
          · obtain ⟨rfl, -, rfl⟩ := Value.slice.inj e
            have hc := hl.cells (g := g1) rfl
            have h1 := hc _ _ hpc.1
            have h2 := hc _ _ hpc.2
            rw [Addr.add_lit, Nat.zero_add] at h1 h2
            exact ⟨g1, rfl, h1, h2⟩
        obtain ⟨bl, rfl, hl1, hl2⟩ := hcp
        have hl1' := (HST.out.below.cell (p := ⟨bl, k * 2, none⟩) (World.block_lt_of_cell? w2 _ hl1)).trans hl1
        have hl2' := (HST.out.below.cell (p := ⟨bl, k * 2 + 1, none⟩) (World.block_lt_of_cell? w2 _ hl2)).trans hl2
        have HGT := Lib.hid (gensTo_succ t R ps k)
        generalize ps.getD k (0, 0) = p at *
        obtain ⟨r, q⟩ := p
        simp only at hl1' hl2' hpm
        clear hl hl1 hl2 hmem
        have hr : r < t.length := hpm.1
        have hq : q < g := hpm.2
        obtain ⟨hda, hdl⟩ := dest_at HG.out HSTD.out hr hq
        obtain ⟨Ar', cr', er, hr1, hr2, hr3⟩ := HS2.out.reps.open_
        obtain ⟨rfl, -, rfl⟩ := Value.slice.inj er
        obtain ⟨br, or', rfl, hrc⟩ := hr3 (by have := HRL.out.1; omega)
        obtain ⟨ud, hud, hId⟩ := hrc (dest t r q) (by have := HRL.out.1; omega)
        obtain ⟨ur, hur, hIr⟩ := hrc r (by have := HRL.out.1; omega)
        obtain ⟨Ad, cd, rfl, -, -, -⟩ := hId.open_
        obtain ⟨A7, c7, rfl, -, -, -⟩ := hIr.open_
        obtain ⟨x0, x1, x2, x3⟩ := HX.out
        have hbwx : Below wr.heap.size wr (wr.alloc (.cells #[.int .i64 (r : Int), .int .i64 ((q : Int) + 1)] 69)) := (Below.refl _ _).alloc (Nat.le_refl _) _
        have hbw2 := HST.out.below.trans (hbwx.mono HST.out.below.size)
        have hnewx := heap_alloc_new wr (.cells #[.int .i64 (r : Int), .int .i64 ((q : Int) + 1)] 69)
        have hszx : (wr.alloc (.cells #[.int .i64 (r : Int), .int .i64 ((q : Int) + 1)] 69)).heap.size = wr.heap.size + 1 := by simp
        have hcell : ∀ {b o : Nat} {u : Value}, w2.cell? ⟨b, o, none⟩ = some u → (wr.alloc (.cells #[.int .i64 (r : Int), .int .i64 ((q : Int) + 1)] 69)).cell? ⟨b, o, none⟩ = some u := fun {b o u} h => (hbw2.cell (p := ⟨b, o, none⟩) (World.block_lt_of_cell? w2 _ h)).trans h
        have HSS : Hid (∀ w', Below (wr.alloc (.cells #[.int .i64 (r : Int), .int .i64 ((q : Int) + 1)] 69)).heap.size (wr.alloc (.cells #[.int .i64 (r : Int), .int .i64 ((q : Int) + 1)] 69)) w' →
            w'.cell? ⟨w1.heap.size, 0, none⟩ = some (.slice A t.length c) ∧ w'.cell? ⟨w1.heap.size, 1, none⟩ = some (.slice (some ⟨br, or', none⟩) R.length cr) ∧ w'.cell? ⟨wr.heap.size, 0, none⟩ = some (.int .i64 (r : Int)) ∧ w'.cell? ⟨wr.heap.size, 1, none⟩ = some (.int .i64 ((q : Int) + 1)) ∧
              w'.cell? ⟨br, or' + dest t r q, none⟩ = some (.slice Ad (R.getD (dest t r q) []).length cd) ∧ w'.cell? ⟨br, or' + r, none⟩ = some (.slice A7 (R.getD r []).length c7)) := Lib.hid fun w' hb' => by
          have hk : ∀ {b o : Nat} {u : Value}, (wr.alloc (.cells #[.int .i64 (r : Int), .int .i64 ((q : Int) + 1)] 69)).cell? ⟨b, o, none⟩ = some u → w'.cell? ⟨b, o, none⟩ = some u := fun {b o u} h => (hb'.cell (p := ⟨b, o, none⟩) (World.block_lt_of_cell? _ _ h)).trans h
          exact ⟨hk (hcell x0), hk (hcell x1), hk (by rw [cell_of_row _ _ _ _ _ _ hnewx]; rfl), hk (by rw [cell_of_row _ _ _ _ _ _ hnewx]; rfl), hk (hcell hud), hk (hcell hur)⟩
        have HTW : Hid (Tab (wr.alloc (.cells #[.int .i64 (r : Int), .int .i64 ((q : Int) + 1)] 69)) (.slice A t.length c) t) := Lib.hid (kept_tab.below HS2.out.tab hbw2)
        have HIR : Hid (IntsAt (wr.alloc (.cells #[.int .i64 (r : Int), .int .i64 ((q : Int) + 1)] 69)) (.slice A7 (R.getD r []).length c7) (R.getD r [])) := Lib.hid (hIr.below hbw2)
        have HID : Hid (IntsAt (wr.alloc (.cells #[.int .i64 (r : Int), .int .i64 ((q : Int) + 1)] 69)) (.slice Ad (R.getD (dest t r q) []).length cd) (R.getD (dest t r q) [])) := Lib.hid (hId.below hbw2)
        have HOS := Lib.hid (HST.out.below' hbwx)
        have hr0 : (0 : Int) ≤ (r : Int) := Int.natCast_nonneg _
        have hq0 : (0 : Int) ≤ (q : Int) := Int.natCast_nonneg _
        have hrI : (r : Int) < (R.length : Int) := by have := HRL.out.1; omega
        have hd0 : (0 : Int) ≤ (dest t r q : Int) := Int.natCast_nonneg _
        have hdI : (dest t r q : Int) < (R.length : Int) := by have := HRL.out.1; omega
        have HDA := Lib.hid hda
        have hlr : (R.getD r []).length ≤ 20000 := by have := HRL.out.2 r hr; omega
        have hld : (R.getD (dest t r q) []).length ≤ 20000 := by have := HRL.out.2 _ hdl; omega
        have HSC : Hid (schr t R (r, q) = red ((R.getD r [] ++ [(q : Int) + 1]) ++ red (inv (R.getD (dest t r q) [])))) := Lib.hid rfl
        have HMX : Hid (∀ z ∈ R.getD r [] ++ [(q : Int) + 1], Mild z) := Lib.hid fun z hz => by
          rcases List.mem_append.1 hz with h | h
          · exact HML.out r z h
          · have : z = (q : Int) + 1 := by simpa using h
            rw [this]; unfold Mild; omega
        have HMD := Lib.hid (HML.out (dest t r q))
        have HMY : Hid (∀ z ∈ red (inv (R.getD (dest t r q) [])), Mild z) := Lib.hid fun z hz => mild_inv HMD.out z (red_mem hz)
        have HLY : Hid ((red (inv (R.getD (dest t r q) []))).length ≤ 20000) := Lib.hid (by have := red_length (inv (R.getD (dest t r q) [])); rw [length_inv] at this; omega)
        have HNX := Lib.hid hnewx
        have HBR : Hid (br < w2.heap.size) := Lib.hid (World.block_lt_of_cell? w2 _ hud)
        have HWS := Lib.hid HST.out.below.size
        clear hud hur hId hIr hrc hr3 er x0 x1 x2 x3 hcell hnewx hda
        generalize R.getD r [] = xr at *
        generalize R.getD (dest t r q) [] = xd at *
        go_wp2_with fail
        generalize hwx : wr.alloc (.cells #[.int .i64 (r : Int), .int .i64 ((q : Int) + 1)] 69) = wx at *
        clear hwx hbwx hbw2
        have HW : Hid (Below wx.heap.size wx wx.drew) := Lib.hid ((Below.refl wx.heap.size wx).drew)
        go_region_held3 (fun w' => w'.cell? ⟨w1.heap.size, 0, none⟩ = some (.slice A t.length c) ∧ w'.cell? ⟨w1.heap.size, 1, none⟩ = some (.slice (some ⟨br, or', none⟩) R.length cr) ∧ w'.cell? ⟨wr.heap.size, 0, none⟩ = some (.int .i64 (r : Int)) ∧ w'.cell? ⟨wr.heap.size, 1, none⟩ = some (.int .i64 ((q : Int) + 1)) ∧
              w'.cell? ⟨br, or' + dest t r q, none⟩ = some (.slice Ad xd.length cd) ∧ w'.cell? ⟨br, or' + r, none⟩ = some (.slice A7 xr.length c7)) (first | exact HSS.out _ HW.out)
          (first
          | (go_at_call 25; (refine (step70_any _ (.slice A t.length c) (some ⟨br, or', none⟩) R.length cr t r ((q : Int) + 1) (2 * q) (kept_tab.below HTW.out HW.out) hr (by rw [HG.out.len r hr]; omega) (.inl ⟨by omega, by omega⟩) ⟨by omega, by omega⟩).mono ?_); rintro e w6 ⟨rfl, hb6⟩; rw [HDA.out]; have HW := Lib.hid (HW.out.trans (hb6.mono HW.out.size)); clear hb6))
        go_wp2_with fail
        rename World => w6
        have hW6 := HW.out.drew
        have HW6 := Lib.hid HW.out
        have HW := Lib.hid hW6
        clear hW6
        go_region_held3 (fun w' => w'.cell? ⟨w1.heap.size, 0, none⟩ = some (.slice A t.length c) ∧ w'.cell? ⟨w1.heap.size, 1, none⟩ = some (.slice (some ⟨br, or', none⟩) R.length cr) ∧ w'.cell? ⟨wr.heap.size, 0, none⟩ = some (.int .i64 (r : Int)) ∧ w'.cell? ⟨wr.heap.size, 1, none⟩ = some (.int .i64 ((q : Int) + 1)) ∧
              w'.cell? ⟨br, or' + dest t r q, none⟩ = some (.slice Ad xd.length cd) ∧ w'.cell? ⟨br, or' + r, none⟩ = some (.slice A7 xr.length c7)) (first | exact HSS.out _ HW.out | exact HSS.out _ (HW.out.alloc HW.out.size _) | exact HK63.out)
          (first
          | (go_at_call 27; (refine (clone71_any _ (.slice A7 xr.length c7) xr (by first | exact HIR.out.below HW.out | exact HIR.out.below (HW.out.alloc HW.out.size _)) (by omega)).mono ?_); rintro e w7 ⟨A5, c5, rfl, ho5, hb5⟩
             have HO5 : Hid (OwnI wx.heap.size w7 (.slice A5 xr.length c5) xr) := Lib.hid (owns_base ho5 (by first | exact HW.out.size | exact Nat.le_trans HW.out.size (by simp)))
             have HB5 := Lib.hid hb5
             have HW : Hid (Below wx.heap.size wx w7) := Lib.hid (by first | exact HW.out.trans (hb5.mono HW.out.size) | exact (HW.out.alloc HW.out.size _).trans (hb5.mono (Nat.le_trans HW.out.size (by simp))))
             clear ho5 hb5)
          | (refine step_sel 58 ?_
             refine step_app_ints 39 Tryz.underlying39 (.tmp 54) (.tmp 57) rfl rfl wx.heap.size _ _ xr [(q : Int) + 1] rfl rfl (by first | exact HO5.out | exact owns_below HO5.out ((Below.refl _ _).alloc (Nat.le_refl _) _)) (by first | exact ints_one _ _ (by omega) | exact (ints_one _ _ (by omega)).below HB5.out | exact IntsAt.below (w := (w6.alloc _).drew) (ints_one w6 _ (by omega)) HB5.out) (by omega) (by simp) (by first | exact HW.out.size | exact Nat.le_trans HW.out.size (by simp)) ?_
             intro A8 c8 w8 ho8 hg8
             have HW : Hid (Below wx.heap.size wx w8) := Lib.hid (by first | exact HW.out.grown hg8 HW.out.size (fun k hk => (owns_block HO5.out k hk).1) | exact (HW.out.alloc HW.out.size _).grown hg8 (Nat.le_trans HW.out.size (by simp)) (fun k hk => (owns_block HO5.out k hk).1))
             have HO8 := Lib.hid (OwnI.ints ho8 (Mild.fits HMX.out))
             have hlen8 : (xr ++ [(q : Int) + 1]).length = xr.length + 1 := by simp
             rw [hlen8] at HO8
             rw [hlen8]
             clear ho8 hg8 HO5 HB5 hlen8)
          | (go_at_call 28; (refine (invert72_any _ (.slice Ad xd.length cd) xd (HID.out.below HW.out) HMD.out (by omega)).mono ?_); rintro e w9 ⟨A9', c9', rfl, ho9, hb9⟩
             have HI8 := Lib.hid (HO8.out.below hb9)
             have HO9 := Lib.hid (OwnI.ints ho9 (Mild.fits HMY.out))
             have HW : Hid (Below wx.heap.size wx w9) := Lib.hid (HW.out.trans (hb9.mono HW.out.size))
             clear ho9 hb9 HO8)
          | (go_at_call 26; (refine (mul41_any _ _ _ (xr ++ [(q : Int) + 1]) (red (inv xd)) HI8.out HO9.out HMX.out HMY.out (by have := HLY.out; simp; omega)).mono ?_); rintro e w10 ⟨A10, c10, rfl, ho10, hb10⟩
             rw [← HSC.out] at ho10 ⊢
             have hW10 : Below wx.heap.size wx w10 := HW.out.trans (hb10.mono HW.out.size)
             obtain ⟨A11, c11, w11, hr11, hS11, hg11⟩ := (HOS.out.with_row hW10 (owns_base ho10 HW.out.size)).done' (by decide) Tryz.underlying24 info25p (by rw [HSC.out]; exact Mild.fits fun z hz => (List.mem_append.1 (red_mem hz)).elim (HMX.out z) (HMY.out z)) (by rw [length_gensTo]; omega)
             rw [length_gensTo] at hr11 hS11
             rw [← HGT.out] at hS11
             have HR11 := Lib.hid hr11
             have HS11 := Lib.hid hS11
             have hk63 : ∀ {b o : Nat} {u : Value}, b ≠ wr.heap.size → b < w2.heap.size → w10.cell? ⟨b, o, none⟩ = some u → w11.cell? ⟨b, o, none⟩ = some u := fun {b o u} _ hb h => hg11.cell h (fun e => by have := (HOS.out.out.block b e.symm).1; omega)
             obtain ⟨y0, y1, y2, y3, y4, y5⟩ := HSS.out _ hW10
             have hbx10 : (Value.slice A9 k c9).ownBlock ≠ some wr.heap.size := fun e => by
               obtain ⟨-, C, hC⟩ := HOS.out.out.block _ e
               rw [HNX.out] at hC; cases hC
             have hkx : ∀ {o : Nat} {u : Value}, w10.cell? ⟨wr.heap.size, o, none⟩ = some u → w11.cell? ⟨wr.heap.size, o, none⟩ = some u := fun {o u} h => hg11.cell h (fun e => hbx10 e.symm)
             have HK63 : Hid (w11.cell? ⟨w1.heap.size, 0, none⟩ = some (.slice A t.length c) ∧ w11.cell? ⟨w1.heap.size, 1, none⟩ = some (.slice (some ⟨br, or', none⟩) R.length cr) ∧ w11.cell? ⟨wr.heap.size, 0, none⟩ = some (.int .i64 (r : Int)) ∧ w11.cell? ⟨wr.heap.size, 1, none⟩ = some (.int .i64 ((q : Int) + 1)) ∧
              w11.cell? ⟨br, or' + dest t r q, none⟩ = some (.slice Ad xd.length cd) ∧ w11.cell? ⟨br, or' + r, none⟩ = some (.slice A7 xr.length c7)) :=
               Lib.hid ⟨hk63 (by have := HWS.out; have := HSZ.out; omega) (by have := HSZ.out; omega) y0, hk63 (by have := HWS.out; have := HSZ.out; omega) (by have := HSZ.out; omega) y1, hkx y2, hkx y3, hk63 (by have := HWS.out; have := HBR.out; omega) HBR.out y4, hk63 (by have := HWS.out; have := HBR.out; omega) HBR.out y5⟩
             have HW := Lib.hid hW10
             clear ho10 hb10 hW10 hr11 hS11 hg11 hk63 y0 y1 y2 y3 y4 y5 hbx10 hkx)
          | (refine step_sel 63 ?_; refine step_val rfl (r_app (.tmp 46) (.tmp 62) 24 rfl rfl rfl HR11.out) ?_))
        all_goals
          go_wp2_with fail
          go_roundw
          case rel => exact ⟨k + 1, by go_num, by omega, _, _, _, rfl, HS11⟩
          case measure => simp [intOf]; omega
      · obtain rfl : k = ps.length := by omega
        have HT2 := Lib.hid HST.out.tabB
        have HB3 : Hid (Below w.heap.size w wr) := Lib.hid ((HB1.out.trans (HBX.out.mono HB1.out.size)).trans (HST.out.below.mono (Nat.le_trans HB1.out.size HBX.out.size)))
        go_wp2_with fail
        go_ret2
        exact ⟨⟨_, ret_of2 rfl (by rw [HZ.out]), by rw [HZ.out]; exact fun w' hw' => HT2.out w' fun k h1 h2 => hw' k (by have := HB1.out.size; have := HSZ.out; omega) h2⟩, HB3.out⟩
end Go.Proofs
