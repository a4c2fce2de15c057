/- The walk of CosetKnown; Words of the call's own, by blocks; results of a presentation and a number; The walk of Known, cases 0 to 6. -/
import Derived.Test.YtcfighimnkfmeaaCjCS15
import Derived.Test.YtcfighimnkfmeaaCjCS10
namespace Go.Proofs
open Go.RowKit Go.Shelf Go.Proofs.Ct Go.Maps
theorem bl3 {a b c : World} (h1 : Below a.heap.size a b) (h2 : Below b.heap.size b c) : Below a.heap.size a c := h1.trans (h2.mono h1.size)
theorem below_sz {w W : World} {o : Obj} (h : Below (w.heap.size + 1) (w.alloc o) W) : Below (w.alloc o).heap.size (w.alloc o) W := by rw [World.size_alloc]; exact h
theorem eql49 (w : World) : (binOp .eql 49 (.agg #[.int .i64 1, .int .i64 1, .int .i64 0]) (.agg #[.int .i64 1, .int .i64 1, .int .i64 0])).run Try.prog w = .ok (.bool true) w := by kernel_rfl
theorem lit1 (w : World) (x : List Int) (hx : Fits x) {n : Nat} (hn : x.length = n) (hm : n ≤ 1000) {e : TypeId} :
    Tab ((w.alloc (.cells (ints x).toArray 3)).alloc (.cells #[.slice (some ⟨w.heap.size, 0, none⟩) n n] e)) (.slice (some ⟨w.heap.size + 1, 0, none⟩) 1 1) [x] := by
  have h1 := ints_lit w x hx n hn hm
  have hb : Below (w.alloc (.cells (ints x).toArray 3)).heap.size (w.alloc (.cells (ints x).toArray 3)) ((w.alloc (.cells (ints x).toArray 3)).alloc (.cells #[.slice (some ⟨w.heap.size, 0, none⟩) n n] e)) := (Below.refl _ _).alloc (Nat.le_refl _) _
  have h2 := heap_alloc_new (w.alloc (.cells (ints x).toArray 3)) (.cells #[.slice (some ⟨w.heap.size, 0, none⟩) n n] e)
  rw [World.size_alloc] at h2
  exact tab_blk (us := [.slice (some ⟨w.heap.size, 0, none⟩) n n]) h2 rfl rfl (by simp) fun i hi => by
    have : i = 0 := by simpa using hi
    subst this
    exact IntsAt.below h1 hb
theorem lit1_below (w : World) (x : List Int) (n : Nat) {e : TypeId} : Below w.heap.size w ((w.alloc (.cells (ints x).toArray 3)).alloc (.cells #[.slice (some ⟨w.heap.size, 0, none⟩) n n] e)) :=
  ((Below.refl _ _).alloc (Nat.le_refl _) _).alloc (by simp) _
theorem lit2 (w : World) (x y : List Int) (hx : Fits x) (hy : Fits y) {n m : Nat} (hn : x.length = n) (hm : y.length = m) (hs : n ≤ 1000 ∧ m ≤ 1000) {e : TypeId} :
    Tab (((w.alloc (.cells (ints x).toArray 3)).alloc (.cells (ints y).toArray 3)).alloc (.cells #[.slice (some ⟨w.heap.size, 0, none⟩) n n, .slice (some ⟨w.heap.size + 1, 0, none⟩) m m] e)) (.slice (some ⟨w.heap.size + 1 + 1, 0, none⟩) 2 2) [x, y] := by
  have h1 := ints_lit w x hx n hn hs.1
  have h2 := ints_lit (w.alloc (.cells (ints x).toArray 3)) y hy m hm hs.2
  have hb1 : Below (w.alloc (.cells (ints x).toArray 3)).heap.size (w.alloc (.cells (ints x).toArray 3)) ((w.alloc (.cells (ints x).toArray 3)).alloc (.cells (ints y).toArray 3)) := (Below.refl _ _).alloc (Nat.le_refl _) _
  have hb2 := (Below.refl _ ((w.alloc (.cells (ints x).toArray 3)).alloc (.cells (ints y).toArray 3))).alloc (Nat.le_refl _) (.cells #[.slice (some ⟨w.heap.size, 0, none⟩) n n, .slice (some ⟨w.heap.size + 1, 0, none⟩) m m] e)
  have h3 := heap_alloc_new ((w.alloc (.cells (ints x).toArray 3)).alloc (.cells (ints y).toArray 3)) (.cells #[.slice (some ⟨w.heap.size, 0, none⟩) n n, .slice (some ⟨w.heap.size + 1, 0, none⟩) m m] e)
  simp only [World.size_alloc] at h2 h3
  exact tab_blk (us := [.slice (some ⟨w.heap.size, 0, none⟩) n n, .slice (some ⟨w.heap.size + 1, 0, none⟩) m m]) h3 rfl rfl (by simp) fun i hi => by
    have : i = 0 ∨ i = 1 := by simp at hi; omega
    rcases this with rfl | rfl
    · exact (h1.below hb1).below hb2
    · exact h2.below hb2
theorem lit2_below (w : World) (x y : List Int) (n m : Nat) {e : TypeId} : Below w.heap.size w (((w.alloc (.cells (ints x).toArray 3)).alloc (.cells (ints y).toArray 3)).alloc (.cells #[.slice (some ⟨w.heap.size, 0, none⟩) n n, .slice (some ⟨w.heap.size + 1, 0, none⟩) m m] e)) :=
  (((Below.refl _ _).alloc (Nat.le_refl _) _).alloc (by simp) _).alloc (by simp; omega) _
theorem lit3 (w : World) (x y z : List Int) (hx : Fits x) (hy : Fits y) (hz : Fits z) {n m l : Nat} (hn : x.length = n) (hm : y.length = m) (hl : z.length = l) (hs : n ≤ 1000 ∧ m ≤ 1000 ∧ l ≤ 1000) {e : TypeId} :
    Tab ((((w.alloc (.cells (ints x).toArray 3)).alloc (.cells (ints y).toArray 3)).alloc (.cells (ints z).toArray 3)).alloc (.cells #[.slice (some ⟨w.heap.size, 0, none⟩) n n, .slice (some ⟨w.heap.size + 1, 0, none⟩) m m, .slice (some ⟨w.heap.size + 1 + 1, 0, none⟩) l l] e)) (.slice (some ⟨w.heap.size + 1 + 1 + 1, 0, none⟩) 3 3) [x, y, z] := by
  have h1 := ints_lit w x hx n hn hs.1
  have h2 := ints_lit (w.alloc (.cells (ints x).toArray 3)) y hy m hm hs.2.1
  have h3 := ints_lit ((w.alloc (.cells (ints x).toArray 3)).alloc (.cells (ints y).toArray 3)) z hz l hl hs.2.2
  have h4 := tab_three _ _ _ _ _ _ _ (h1.below (((Below.refl _ _).alloc (Nat.le_refl _) _).alloc (by simp) _)) (h2.below ((Below.refl _ _).alloc (Nat.le_refl _) _)) h3 (e := e)
  simp only [World.size_alloc] at h4
  exact h4
theorem lit3_below (w : World) (x y z : List Int) (n m l : Nat) {e : TypeId} : Below w.heap.size w ((((w.alloc (.cells (ints x).toArray 3)).alloc (.cells (ints y).toArray 3)).alloc (.cells (ints z).toArray 3)).alloc (.cells #[.slice (some ⟨w.heap.size, 0, none⟩) n n, .slice (some ⟨w.heap.size + 1, 0, none⟩) m m, .slice (some ⟨w.heap.size + 1 + 1, 0, none⟩) l l] e)) :=
  ((((Below.refl _ _).alloc (Nat.le_refl _) _).alloc (by simp) _).alloc (by simp; omega) _).alloc (by simp; omega) _
theorem short_of {l : List W} {m : Nat} (h : (l.all fun x => decide (x.length ≤ m)) = true) : ∀ j, (l.getD j []).length ≤ m := fun j => by
  rcases Nat.lt_or_ge j l.length with hj | hj
  · rw [List.getD_eq_getElem?_getD, List.getElem?_eq_getElem hj]
    exact of_decide_eq_true (List.all_eq_true.1 h _ (List.getElem_mem hj))
  · rw [List.getD_eq_getElem?_getD, List.getElem?_eq_none hj]
    exact Nat.zero_le _
theorem enumK (g : Int) (rels sub : List W) (limit : Int) (T : Tb) (a b c : Int) (h : enumE g rels sub limit = (T, (a, b), c)) (h1 : (sub.all fun x => decide (x.length ≤ 100000)) = true) (h2 : sub.length ≤ 1000000) (_h3 : (rels.all fun x => decide (x.length ≤ 100000)) = true) (_h4 : rels.length ≤ 1000000) (W : World) (vr vs : Value) (hr : Tab W vr rels) (hs : Tab W vs sub) :
    Calls Try.prog 32 #[.agg #[.int .i64 g, vr], vs, .int .i64 limit] W fun e w' => (∃ u, e = .returned (.tuple #[u, .agg #[.int .i64 a, .int .i64 b, .int .i64 0], .int .i64 c]) ∧ Tab w' u T) ∧ Below W.heap.size W w' :=
  (enum32_any W vr vs g rels sub limit hr hs (short_of h1) h2).mono fun e w' (⟨⟨u, h5, h6⟩, h7⟩ : EnumPost g rels sub limit W e w') => by
    rw [h] at h5 h6
    exact ⟨⟨u, h5, h6⟩, h7⟩
theorem stdK (g : Int) (t : Tb) (b : Int) (T : Tb) (c : Int) (h : stdE g t b = (T, c)) (W : World) (v : Value) (ht : Tab W v t) : Calls Try.prog 48 #[.int .i64 g, v, .int .i64 b] W fun e w' => (∃ u, e = .returned (.tuple #[u, .int .i64 c]) ∧ Tab w' u T) ∧ Below W.heap.size W w' :=
  (std48_any W v g t b ht).mono fun e w' (⟨⟨u, h5, h6⟩, h7⟩ : StdPost g t b W e w') => by
    rw [h] at h5 h6
    exact ⟨⟨u, h5, h6⟩, h7⟩
theorem checkK (g : Int) (t : Tb) (a b : Int) (h : check g t = (a, b)) (W : World) (v : Value) (ht : Tab W v t) : Calls Try.prog 43 #[.int .i64 g, v] W fun e w' => e = .returned (.tuple #[.int .i64 a, .int .i64 b]) ∧ Below W.heap.size W w' :=
  (check43_any W v g t ht).mono fun e w' (⟨h5, h7⟩ : CheckPost g t W e w') => by
    rw [h] at h5
    exact ⟨h5, h7⟩
theorem repsK (g : Int) (t : Tb) (T : Tb) (c : Int) (h : repsE g t = (T, c)) (W : World) (v : Value) (ht : Tab W v t) : Calls Try.prog 50 #[.int .i64 g, v] W fun e w' => (∃ u, e = .returned (.tuple #[u, .int .i64 c]) ∧ Tab w' u T) ∧ Below W.heap.size W w' :=
  (reps50_any W v g t ht).mono fun e w' (⟨⟨u, h5, h6⟩, h7⟩ : RepsPost g t W e w') => by
    rw [h] at h5 h6
    exact ⟨⟨u, h5, h6.at_⟩, h7⟩
theorem imgK (g : Int) (t : Tb) (T : Tb) (c : Int) (h : imgE g t = (T, c)) (W : World) (v : Value) (ht : Tab W v t) : Calls Try.prog 53 #[.int .i64 g, v] W fun e w' => (∃ u, e = .returned (.tuple #[u, .int .i64 c]) ∧ Tab w' u T) ∧ Below W.heap.size W w' :=
  (img53_any W v g t ht).mono fun e w' (⟨⟨u, h5, h6⟩, h7⟩ : ImgPost g t W e w') => by
    rw [h] at h5 h6
    exact ⟨⟨u, h5, h6⟩, h7⟩
theorem traceK (g : Int) (t : Tb) (r : Int) (ws : List Int) (a : Int) (b : Bool) (h : traceE g t r ws = (a, b)) (W : World) (v u : Value) (ht : Tab W v t) (hu : IntsAt W u ws) : Calls Try.prog 40 #[.int .i64 g, v, .int .i64 r, u] W fun e w' => e = .returned (.tuple #[.int .i64 a, .bool b]) ∧ Below W.heap.size W w' :=
  (trace40_any W v u g t r ws ht hu).mono fun e w' (⟨h5, h7⟩ : TracePostE g t r ws W e w') => by
    rw [h] at h5
    exact ⟨h5, h7⟩
theorem holdsK (g : Int) (rels sub : List W) (t : Tb) (a : Bool) (b : Int) (h : holdsE g rels sub t = (a, b)) (W : World) (vr vs vt : Value) (hr : Tab W vr rels) (hs : Tab W vs sub) (ht : Tab W vt t) : Calls Try.prog 35 #[.agg #[.int .i64 g, vr], vs, vt] W fun e w' => e = .returned (.tuple #[.bool a, .int .i64 b]) ∧ Below W.heap.size W w' :=
  (holds35_any W vr vs vt g rels sub t hr hs ht).mono fun e w' (⟨h5, h7⟩ : HoldsPost g rels sub t W e w') => by
    rw [h] at h5
    exact ⟨h5, h7⟩
set_option maxRecDepth 100000 in
set_option maxHeartbeats 8000000 in
theorem known9_any (w : World) : Calls Try.prog 9 #[] w fun e w' => e = .returned (.bool true) ∧ Below w.heap.size w w' := by
  have HE1 := Lib.hid (enumK 1 [[1, 1, 1]] [] 100 _ 3 3 0 (by decide +kernel : enumE 1 [[1, 1, 1]] [] 100 = ([[1, 2], [2, 0], [0, 1]], (3, 3), 0)) (by decide) (by decide) (by decide) (by decide))
  have HE2 := Lib.hid (enumK 1 [] [] 5 _ 0 0 12 (by decide +kernel : enumE 1 [] [] 5 = ([], (0, 0), 12)) (by decide) (by decide) (by decide) (by decide))
  have HE3 := Lib.hid (enumK 1 [[1]] [] 1 _ 1 1 0 (by decide +kernel : enumE 1 [[1]] [] 1 = ([[0, 0]], (1, 1), 0)) (by decide) (by decide) (by decide) (by decide))
  have HE4 := Lib.hid (enumK 2 smallT [[3]] 9 _ 0 0 2 (by decide +kernel : enumE 2 smallT [[3]] 9 = ([], (0, 0), 2)) (by decide) (by decide) (by decide) (by decide))
  have HE5 := Lib.hid (enumK 2 smallT [] 0 _ 0 0 2 (by decide +kernel : enumE 2 smallT [] 0 = ([], (0, 0), 2)) (by decide) (by decide) (by decide) (by decide))
  have HD1 := Lib.hid (stdK 1 [[2, 1], [0, 2], [1, 0]] 1 [[1, 2], [2, 0], [0, 1]] 0 (by decide +kernel))
  have HD2 := Lib.hid (stdK 1 [[1, 1], [0, 0], [2, 2]] 0 [] 13 (by decide +kernel))
  have HCK := Lib.hid (checkK 1 [[1, 0], [0, 1]] 14 0 (by decide +kernel))
  have HRE := Lib.hid (repsK 2 threeT [[], [2], [-2]] 0 (by decide +kernel))
  have HIM := Lib.hid (imgK 2 threeT [[0, 2, 1], [1, 2, 0]] 0 (by decide +kernel))
  have HTR := Lib.hid (traceK 2 threeT 0 [2, 1] 2 true (by decide +kernel))
  have HH1 := Lib.hid (holdsK 2 smallT [[1]] threeT true 0 (by decide +kernel))
  have HH2 := Lib.hid (holdsK 2 smallT [[2]] threeT false 0 (by decide +kernel))
  have HPL : Hid (∀ W v, Tab W v [[], [2], [-2]] → Calls Try.prog 52 #[v] W fun e w' => (∃ u, e = .returned u ∧ Tab w' u [[], [2], [-2]]) ∧ Below W.heap.size W w') := Lib.hid fun W v h => plain52_any W v _ h (by decide)
  have HSM : Hid (∀ (W : World) (a b : Value) (T : Tb), Tab W a T → Tab W b T → Calls Try.prog 34 #[a, b] W fun e w'' => e = .returned (.bool true) ∧ Below W.heap.size W w'') := Lib.hid fun W a b T h1 h2 => (same18_any W a b _ _ h1 h2).mono fun e w'' ⟨h, q, h'⟩ => ⟨h.trans (ret_bool (decide_eq_true rfl)), h' ▸ below_drewN (Below.refl _ _) q⟩
  have hq := eql49
  have HB0 := Lib.hid (Below.refl w.heap.size w)
  have ht := lit1 (w) [1, 1, 1] (fits_lit (by decide)) rfl (by decide) (e := 25)
  have hx := lit1_below (w) [1, 1, 1] 3 (e := 25)
  have HaT := Lib.hid ht
  have HaB := Lib.hid hx
  clear ht hx
  go_enter Try.func9, Try.ntmps9
  go_wp2_with fail
  refine (HE1.out _ _ _ HaT.out tab_nil).mono ?_
  rintro e v1 ⟨⟨u1, rfl, ht⟩, hb⟩
  have HB1 := Lib.hid (bl3 HaB.out hb)
  have hx := kept_tab.below ht ((Below.refl _ _).alloc (Nat.le_refl _) (.cells #[.int .i64 3, .int .i64 3, .int .i64 0] 49))
  obtain ⟨A1, c1, rfl⟩ := Tab.form ht
  have HX1 := Lib.hid (HB1.out.alloc HB1.out.size (.cells #[.int .i64 3, .int .i64 3, .int .i64 0] 49))
  have HT1 := Lib.hid hx
  clear ht hx
  have ht := lit3 (v1.alloc (.cells #[.int .i64 3, .int .i64 3, .int .i64 0] 49)) [1, 2] [2, 0] [0, 1] (fits_lit (by decide)) (fits_lit (by decide)) (fits_lit (by decide)) rfl rfl rfl (by decide) (e := 24)
  have hx := lit3_below (v1.alloc (.cells #[.int .i64 3, .int .i64 3, .int .i64 0] 49)) [1, 2] [2, 0] [0, 1] 2 2 2 (e := 24)
  simp only [World.size_alloc] at ht hx
  replace hx := below_sz hx
  have HbT := Lib.hid ht
  have HbB := Lib.hid hx
  clear ht hx
  have HT1' := Lib.hid (kept_tab.below HT1.out (HbB.out))
  clear hb HE1 HaT HaB HT1
  go_wp2_with fail
  refine (HSM.out _ _ _ _ HT1'.out HbT.out).mono ?_
  rintro e v2 ⟨rfl, hb⟩
  have HB2 := Lib.hid (bl3 (bl3 HX1.out HbB.out) hb)
  clear hb HT1' HbT HbB HX1
  go_wp2_with fail
  refine (HE2.out _ _ _ tab_nil tab_nil).mono ?_
  rintro e v3 ⟨⟨u3, rfl, ht⟩, hb⟩
  have HB3 := Lib.hid (bl3 HB2.out hb)
  obtain ⟨A3, c3, rfl⟩ := Tab.form ht
  have HX3 := Lib.hid (HB3.out.alloc HB3.out.size (.cells #[.int .i64 0, .int .i64 0, .int .i64 0] 49))
  have ht := lit1 (v3.alloc (.cells #[.int .i64 0, .int .i64 0, .int .i64 0] 49)) [1] (fits_lit (by decide)) rfl (by decide) (e := 25)
  have hx := lit1_below (v3.alloc (.cells #[.int .i64 0, .int .i64 0, .int .i64 0] 49)) [1] 1 (e := 25)
  simp only [World.size_alloc] at ht hx
  replace hx := below_sz hx
  have HcT := Lib.hid ht
  have HcB := Lib.hid hx
  clear ht hx
  clear hb HE2 ht
  go_wp2_with fail
  refine (HE3.out _ _ _ HcT.out tab_nil).mono ?_
  rintro e v4 ⟨⟨u4, rfl, ht⟩, hb⟩
  have HB4 := Lib.hid (bl3 (bl3 HX3.out HcB.out) hb)
  obtain ⟨A4, c4, rfl⟩ := Tab.form ht
  have HX4 := Lib.hid (HB4.out.alloc HB4.out.size (.cells #[.int .i64 1, .int .i64 1, .int .i64 0] 49))
  have HT4 := Lib.hid (kept_tab.below ht ((Below.refl _ _).alloc (Nat.le_refl _) (.cells #[.int .i64 1, .int .i64 1, .int .i64 0] 49)))
  have HN4 : Hid (∀ W, Below (v4.alloc (.cells #[.int .i64 1, .int .i64 1, .int .i64 0] 49)).heap.size (v4.alloc (.cells #[.int .i64 1, .int .i64 1, .int .i64 0] 49)) W → W.cell? ⟨v4.heap.size, 0, none⟩ = some (.int .i64 1) ∧ W.cell? ⟨v4.heap.size, 1, none⟩ = some (.int .i64 1) ∧ W.cell? ⟨v4.heap.size, 2, none⟩ = some (.int .i64 0)) := Lib.hid fun W h => cells49 ((h.block _ (by simp)).trans (heap_alloc_new v4 _))
  clear hb HE3 ht HcT HcB
  go_wp2_with fail
  refine (small55_any _).mono ?_
  rintro e v5 ⟨⟨A5, c5, rfl, ht⟩, hb⟩
  have HB5 := Lib.hid (bl3 HX4.out hb)
  have HC5 := Lib.hid hb
  have HP5 := Lib.hid ht
  clear ht
  have ht := lit1 (v5) [3] (fits_lit (by decide)) rfl (by decide) (e := 25)
  have hx := lit1_below (v5) [3] 1 (e := 25)
  have HdT := Lib.hid ht
  have HdB := Lib.hid hx
  clear ht hx
  have HP5' := Lib.hid (kept_tab.below HP5.out HdB.out)
  clear hb HX4
  go_wp2_with fail
  refine (HE4.out _ _ _ HP5'.out HdT.out).mono ?_
  rintro e v6 ⟨⟨u6, rfl, ht⟩, hb⟩
  have HB6 := Lib.hid (bl3 (bl3 HB5.out HdB.out) hb)
  have HC6 := Lib.hid (bl3 (bl3 HC5.out HdB.out) hb)
  obtain ⟨A6, c6, rfl⟩ := Tab.form ht
  have HX6 := Lib.hid (HB6.out.alloc HB6.out.size (.cells #[.int .i64 0, .int .i64 0, .int .i64 0] 49))
  have HY6 := Lib.hid (HC6.out.alloc HC6.out.size (.cells #[.int .i64 0, .int .i64 0, .int .i64 0] 49))
  clear hb HE4 ht HdT HdB HP5 HP5'
  go_wp2_with fail
  refine (small55_any _).mono ?_
  rintro e v7 ⟨⟨A7, c7, rfl, ht⟩, hb⟩
  have HB7 := Lib.hid (bl3 HX6.out hb)
  have HC7 := Lib.hid (bl3 HY6.out hb)
  have HP7 := Lib.hid ht
  clear hb ht HX6 HY6
  go_wp2_with fail
  refine (HE5.out _ _ _ HP7.out tab_nil).mono ?_
  rintro e v8 ⟨⟨u8, rfl, ht⟩, hb⟩
  have HB8 := Lib.hid (bl3 HB7.out hb)
  have HC8 := Lib.hid (bl3 HC7.out hb)
  obtain ⟨A8, c8, rfl⟩ := Tab.form ht
  have HX8 := Lib.hid (HB8.out.alloc HB8.out.size (.cells #[.int .i64 0, .int .i64 0, .int .i64 0] 49))
  have HY8 := Lib.hid (HC8.out.alloc HC8.out.size (.cells #[.int .i64 0, .int .i64 0, .int .i64 0] 49))
  clear ht
  have ht := lit1 (v8.alloc (.cells #[.int .i64 0, .int .i64 0, .int .i64 0] 49)) [0, 0] (fits_lit (by decide)) rfl (by decide) (e := 24)
  have hx := lit1_below (v8.alloc (.cells #[.int .i64 0, .int .i64 0, .int .i64 0] 49)) [0, 0] 2 (e := 24)
  simp only [World.size_alloc] at ht hx
  replace hx := below_sz hx
  have HfT := Lib.hid ht
  have HfB := Lib.hid hx
  clear ht hx
  have HT4' := Lib.hid (kept_tab.below HT4.out (bl3 HY8.out HfB.out))
  clear hb HE5 HP7
  go_wp2_with fail
  refine (HSM.out _ _ _ _ HT4'.out HfT.out).mono ?_
  rintro e v9 ⟨rfl, hb⟩
  have HB9 := Lib.hid (bl3 (bl3 HX8.out HfB.out) hb)
  obtain ⟨d1, d2, d3⟩ := HN4.out _ (bl3 (bl3 HY8.out HfB.out) hb)
  have ht := lit3 (v9) [2, 1] [0, 2] [1, 0] (fits_lit (by decide)) (fits_lit (by decide)) (fits_lit (by decide)) rfl rfl rfl (by decide) (e := 24)
  have hx := lit3_below (v9) [2, 1] [0, 2] [1, 0] 2 2 2 (e := 24)
  have HgT := Lib.hid ht
  have HgB := Lib.hid hx
  clear ht hx
  clear hb HT4 HT4' HfT HfB HX8 HY8 HN4
  go_wp2_with fail
  refine (HD1.out _ _ HgT.out).mono ?_
  rintro e v10 ⟨⟨u10, rfl, ht⟩, hb⟩
  have HB10 := Lib.hid (bl3 (bl3 HB9.out HgB.out) hb)
  obtain ⟨A10, c10, rfl⟩ := Tab.form ht
  have HT10 := Lib.hid ht
  clear ht d1 d2 d3
  have ht := lit3 (v10) [1, 1] [0, 0] [2, 2] (fits_lit (by decide)) (fits_lit (by decide)) (fits_lit (by decide)) rfl rfl rfl (by decide) (e := 24)
  have hx := lit3_below (v10) [1, 1] [0, 0] [2, 2] 2 2 2 (e := 24)
  have HhT := Lib.hid ht
  have HhB := Lib.hid hx
  clear ht hx
  have HT10' := Lib.hid (kept_tab.below HT10.out HhB.out)
  clear hb HD1 HgT HgB HT10
  go_wp2_with fail
  refine (HD2.out _ _ HhT.out).mono ?_
  rintro e v11 ⟨⟨u11, rfl, ht⟩, hb⟩
  have HB11 := Lib.hid (bl3 (bl3 HB10.out HhB.out) hb)
  obtain ⟨A11, c11, rfl⟩ := Tab.form ht
  have HT11 := Lib.hid (kept_tab.below HT10'.out hb)
  clear ht
  have ht := lit2 (v11) [1, 0] [0, 1] (fits_lit (by decide)) (fits_lit (by decide)) rfl rfl (by decide) (e := 24)
  have hx := lit2_below (v11) [1, 0] [0, 1] 2 2 (e := 24)
  have HiT := Lib.hid ht
  have HiB := Lib.hid hx
  clear ht hx
  have HT11' := Lib.hid (kept_tab.below HT11.out HiB.out)
  clear hb HD2 HhT HhB HT11 HT10'
  go_wp2_with fail
  refine (HCK.out _ _ HiT.out).mono ?_
  rintro e v12 ⟨rfl, hb⟩
  have HB12 := Lib.hid (bl3 (bl3 HB11.out HiB.out) hb)
  have HT12 := Lib.hid (kept_tab.below HT11'.out hb)
  have ht := lit3 (v12) [1, 2] [2, 0] [0, 1] (fits_lit (by decide)) (fits_lit (by decide)) (fits_lit (by decide)) rfl rfl rfl (by decide) (e := 24)
  have hx := lit3_below (v12) [1, 2] [2, 0] [0, 1] 2 2 2 (e := 24)
  have HjT := Lib.hid ht
  have HjB := Lib.hid hx
  clear ht hx
  have HT12' := Lib.hid (kept_tab.below HT12.out HjB.out)
  clear hb HCK HiT HiB HT11' HT12
  go_wp2_with fail
  refine (HSM.out _ _ _ _ HT12'.out HjT.out).mono ?_
  rintro e v13 ⟨rfl, hb⟩
  have HB13 := Lib.hid (bl3 (bl3 HB12.out HjB.out) hb)
  clear hb HT12' HjT HjB
  go_wp2_with fail
  refine (three56_any _).mono ?_
  rintro e v14 ⟨⟨u14, rfl, ht⟩, hb⟩
  have HB14 := Lib.hid (bl3 HB13.out hb)
  obtain ⟨A14, c14, rfl⟩ := Tab.form ht
  have HT14 := Lib.hid ht
  clear hb ht
  go_wp2_with fail
  refine (HRE.out _ _ HT14.out).mono ?_
  rintro e v15 ⟨⟨u15, rfl, ht⟩, hb⟩
  have HB15 := Lib.hid (bl3 HB14.out hb)
  obtain ⟨A15, c15, rfl⟩ := Tab.form ht
  have HR15 := Lib.hid ht
  clear hb ht HRE HT14
  go_wp2_with fail
  refine (three56_any _).mono ?_
  rintro e v16 ⟨⟨u16, rfl, ht⟩, hb⟩
  have HB16 := Lib.hid (bl3 HB15.out hb)
  have HR16 := Lib.hid (kept_tab.below HR15.out hb)
  obtain ⟨A16, c16, rfl⟩ := Tab.form ht
  have HT16 := Lib.hid ht
  clear hb ht HR15
  go_wp2_with fail
  refine (HIM.out _ _ HT16.out).mono ?_
  rintro e v17 ⟨⟨u17, rfl, ht⟩, hb⟩
  have HB17 := Lib.hid (bl3 HB16.out hb)
  have HR17 := Lib.hid (kept_tab.below HR16.out hb)
  obtain ⟨A17, c17, rfl⟩ := Tab.form ht
  have HI17 := Lib.hid ht
  clear hb ht HR16 HIM HT16
  go_wp2_with fail
  refine (three56_any _).mono ?_
  rintro e v18 ⟨⟨u18, rfl, ht⟩, hb⟩
  have HB18 := Lib.hid (bl3 HB17.out hb)
  obtain ⟨A18, c18, rfl⟩ := Tab.form ht
  have hal : Below v18.heap.size v18 (v18.alloc (.cells (ints [2, 1]).toArray 3)) := (Below.refl _ _).alloc (Nat.le_refl _) _
  have HR18 := Lib.hid (kept_tab.below (kept_tab.below HR17.out hb) hal)
  have HI18 := Lib.hid (kept_tab.below (kept_tab.below HI17.out hb) hal)
  have HT18 := Lib.hid (kept_tab.below ht hal)
  have HW18 := Lib.hid (ints_lit v18 [2, 1] (fits_lit (by decide)) 2 rfl (by omega))
  have HZ18 := Lib.hid (bl3 HB18.out hal)
  clear hb ht hal HR17 HI17
  go_wp2_with fail
  refine (HTR.out _ _ _ HT18.out HW18.out).mono ?_
  rintro e v19 ⟨rfl, hb⟩
  have HB19 := Lib.hid (bl3 HZ18.out hb)
  have HR19 := Lib.hid (kept_tab.below HR18.out hb)
  have HI19 := Lib.hid (kept_tab.below HI18.out hb)
  clear hb HTR HT18 HW18 HZ18 HR18 HI18
  go_wp2_with fail
  refine (HPL.out _ _ HR19.out).mono ?_
  rintro e v20 ⟨⟨u20, rfl, ht⟩, hb⟩
  have HB20 := Lib.hid (bl3 HB19.out hb)
  have HI20 := Lib.hid (kept_tab.below HI19.out hb)
  obtain ⟨A20, c20, rfl⟩ := Tab.form ht
  have HR20 := Lib.hid ht
  clear ht
  have ht := lit3 (v20) [] [2] [-2] (fits_lit (by decide)) (fits_lit (by decide)) (fits_lit (by decide)) rfl rfl rfl (by decide) (e := 24)
  have hx := lit3_below (v20) [] [2] [-2] 0 1 1 (e := 24)
  have HkT := Lib.hid ht
  have HkB := Lib.hid hx
  clear ht hx
  have HR20' := Lib.hid (kept_tab.below HR20.out HkB.out)
  have HI20' := Lib.hid (kept_tab.below HI20.out HkB.out)
  clear hb HPL HR19 HR20 HI19 HI20
  go_wp2_with fail
  refine (HSM.out _ _ _ _ HR20'.out HkT.out).mono ?_
  rintro e v21 ⟨rfl, hb⟩
  have HB21 := Lib.hid (bl3 (bl3 HB20.out HkB.out) hb)
  have HI21 := Lib.hid (kept_tab.below HI20'.out hb)
  have ht := lit2 (v21) [0, 2, 1] [1, 2, 0] (fits_lit (by decide)) (fits_lit (by decide)) rfl rfl (by decide) (e := 24)
  have hx := lit2_below (v21) [0, 2, 1] [1, 2, 0] 3 3 (e := 24)
  have HlT := Lib.hid ht
  have HlB := Lib.hid hx
  clear ht hx
  have HI21' := Lib.hid (kept_tab.below HI21.out HlB.out)
  clear hb HkT HkB HR20' HI20' HI21
  go_wp2_with fail
  refine (HSM.out _ _ _ _ HI21'.out HlT.out).mono ?_
  rintro e v22 ⟨rfl, hb⟩
  have HB22 := Lib.hid (bl3 (bl3 HB21.out HlB.out) hb)
  clear hb HlT HlB HI21'
  go_wp2_with fail
  refine (small55_any _).mono ?_
  rintro e v23 ⟨⟨A23, c23, rfl, ht⟩, hb⟩
  have HB23 := Lib.hid (bl3 HB22.out hb)
  have HP23 := Lib.hid ht
  clear ht
  have ht := lit1 (v23) [1] (fits_lit (by decide)) rfl (by decide) (e := 25)
  have hx := lit1_below (v23) [1] 1 (e := 25)
  have HmT := Lib.hid ht
  have HmB := Lib.hid hx
  clear ht hx
  have HP23' := Lib.hid (kept_tab.below HP23.out HmB.out)
  clear hb HP23 HB22
  go_wp2_with fail
  refine (three56_any _).mono ?_
  rintro e v24 ⟨⟨u24, rfl, ht⟩, hb⟩
  have HB24 := Lib.hid (bl3 (bl3 HB23.out HmB.out) hb)
  have HP24 := Lib.hid (kept_tab.below HP23'.out hb)
  have HW24 := Lib.hid (kept_tab.below HmT.out hb)
  obtain ⟨A24, c24, rfl⟩ := Tab.form ht
  have HT24 := Lib.hid ht
  clear hb ht HmT HmB HP23'
  go_wp2_with fail
  refine (HH1.out _ _ _ _ HP24.out HW24.out HT24.out).mono ?_
  rintro e v25 ⟨rfl, hb⟩
  have HB25 := Lib.hid (bl3 HB24.out hb)
  clear hb HH1 HP24 HW24 HT24
  go_wp2_with fail
  refine (small55_any _).mono ?_
  rintro e v26 ⟨⟨A26, c26, rfl, ht⟩, hb⟩
  have HB26 := Lib.hid (bl3 HB25.out hb)
  have HP26 := Lib.hid ht
  clear ht
  have ht := lit1 (v26) [2] (fits_lit (by decide)) rfl (by decide) (e := 25)
  have hx := lit1_below (v26) [2] 1 (e := 25)
  have HnT := Lib.hid ht
  have HnB := Lib.hid hx
  clear ht hx
  have HP26' := Lib.hid (kept_tab.below HP26.out HnB.out)
  clear hb HP26 HB25
  go_wp2_with fail
  refine (three56_any _).mono ?_
  rintro e v27 ⟨⟨u27, rfl, ht⟩, hb⟩
  have HB27 := Lib.hid (bl3 (bl3 HB26.out HnB.out) hb)
  have HP27 := Lib.hid (kept_tab.below HP26'.out hb)
  have HW27 := Lib.hid (kept_tab.below HnT.out hb)
  obtain ⟨A27, c27, rfl⟩ := Tab.form ht
  have HT27 := Lib.hid ht
  clear hb ht HnT HnB HP26'
  go_wp2_with fail
  refine (HH2.out _ _ _ _ HP27.out HW27.out HT27.out).mono ?_
  rintro e v28 ⟨rfl, hb⟩
  have HB28 := Lib.hid (bl3 HB27.out hb)
  clear hb HH2 HP27 HW27 HT27
  go_wp2_with fail
  refine (awake31_any _).mono ?_
  rintro e v29 ⟨rfl, hb⟩
  have HB29 := Lib.hid (bl3 HB28.out hb)
  clear hb
  go_wp2_with fail
  go_ret
  exact ⟨rfl, HB29.out⟩
end Go.Proofs
namespace Go.Proofs
open Go.RowKit Go.Shelf Go.Proofs.Ct Go.Maps
/-- a word in blocks from base on -/
def IntsB (base : Nat) (w : World) (u : Value) (x : List Int) : Prop := ∀ w' : World, (∀ k, base ≤ k → k < w.heap.size → w'.heap[k]? = w.heap[k]?) → IntsAt w' u x
section
variable {base : Nat} {w w' : World} {u : Value} {x : List Int}
theorem IntsB.at_ (h : IntsB base w u x) : IntsAt w u x := h w fun _ _ _ => rfl
theorem IntsB.below (h : IntsB base w u x) (hb : Below w.heap.size w w') : IntsB base w' u x := fun w'' h'' => h w'' fun k h1 h2 => (h'' k h1 (Nat.lt_of_lt_of_le h2 hb.size)).trans (hb.block k h2)
theorem IntsB.own {b2 : Nat} (h : OwnI b2 w u x) (hf : Fits x) (hb : base ≤ b2) : IntsB base w u x := fun w' hw => OwnI.ints (owns_keep h fun r hr => by
  obtain ⟨h1, C, hC⟩ := owns_block h r hr
  exact hw r (by omega) (Array.getElem?_eq_some_iff.1 hC).1) hf
theorem IntsB.lit (w : World) (x : List Int) (hf : Fits x) {n : Nat} (hn : x.length = n) (hm : n ≤ 1000) (hb : base ≤ w.heap.size) : IntsB base (w.alloc (.cells (ints x).toArray 3)) (.slice (some ⟨w.heap.size, 0, none⟩) n n) x := fun w' hw =>
  ints_blk ((hw w.heap.size hb (by simp)).trans (heap_alloc_new w _)) hf hn hm
theorem TabB.lit (w : World) (us : List Value) (xs : List W) {e : TypeId} {n : Nat} (hn : us.length = n) (hl : us.length = xs.length) (hm : us.length ≤ 1000) (hb : base ≤ w.heap.size) (h : ∀ i, i < xs.length → IntsB base w (us.getD i undef) (xs.getD i [])) :
    TabB base (w.alloc (.cells us.toArray e)) (.slice (some ⟨w.heap.size, 0, none⟩) n n) xs := fun w' hw =>
  tab_blk ((hw w.heap.size hb (by simp)).trans (heap_alloc_new w _)) hn hl hm fun i hi => (h i hi).below ((Below.refl _ _).alloc (Nat.le_refl _) _) w' hw
end
/-- the known presentations: generators, relators, order -/
def knownT : Nat → Int × List W × Int
  | 0 => (1, [powW [1] 7], 7)
  | 1 => (2, [powW [1] 2, powW [2] 2, powW [1, 2] 5], 10)
  | 2 => (2, [powW [1] 2, powW [2] 3, powW [1, 2] 3], 12)
  | 3 => (2, [powW [1] 2, powW [2] 3, powW [1, 2] 4], 24)
  | 4 => (2, [powW [1] 2, powW [2] 3, powW [1, 2] 5], 60)
  | 5 => (2, [powW [1] 4, [1, 1, -2, -2], [-2, 1, 2, 1]], 8)
  | 6 => (2, [powW [1] 3, powW [2] 3, powW [1, 2] 3, powW [1, -2] 3], 27)
  | 7 => (2, [powW [1] 4, powW [2] 6, [-1, -2, 1, 2]], 24)
  | 8 => (3, [powW [1] 2, powW [2] 2, [3, 3], powW [1, 2] 3, powW [2, 3] 3, powW [1, 3] 2], 24)
  | 9 => (2, [powW [1] 2, powW [2] 3, powW [1, 2] 7, powW [-1, -2, 1, 2] 4], 168)
  | 10 => (2, [[-2, 1, 2, -1, -1], [-1, 2, 1, -2, -2]], 1)
  | 11 => (3, [powW [1] 2, powW [2] 2, [3, 3], [-1, -2, 1, 2], [-1, -3, 1, 3], [-2, -3, 2, 3]], 8)
  | 12 => (2, [powW [1] 5, powW [2] 4, [-2, 1, 2, -1, -1]], 20)
  | _ => (2, [powW [1] 7, powW [2] 3, [-2, 1, 2, -1, -1]], 21)
def KnownPost (g : Int) (rels : List W) (n : Int) (w : World) (e : Ending) (w' : World) : Prop := (∃ A c, e = .returned (.tuple #[.agg #[.int .i64 g, .slice A rels.length c], .int .i64 n]) ∧ TabB (w.heap.size + 1) w' (.slice A rels.length c) rels) ∧ Below w.heap.size w w'
theorem powerK (w : World) (v : Value) (x : List Int) (n L : Nat) (h : IntsAt w v x) (hn : n ≤ 1000) (hx : x.length ≤ 100) (hL : (powW x n).length = L) : Calls Try.prog 112 #[v, .int .i64 (n : Int)] w fun e w' => ∃ A c, e = .returned (.slice A L c) ∧ OwnI w.heap.size w' (.slice A L c) (powW x n) ∧ Below w.heap.size w w' := by
  subst hL
  exact power112_any w v x n h hn hx
/-- the state of Known: the box of the result is still empty -/
structure KS (w W : World) : Prop where
  below : Below w.heap.size w W
  box : W.heap[w.heap.size]? = some (.cells zero40 40 (0, 0))
theorem KS.lt {w W : World} (h : KS w W) : w.heap.size + 1 ≤ W.heap.size := (Array.getElem?_eq_some_iff.1 h.box).1
theorem KS.below' {w W W' : World} (h : KS w W) (hb : Below W.heap.size W W') : KS w W' := ⟨h.below.trans (hb.mono h.below.size), (hb.block _ h.lt).trans h.box⟩
theorem known_start (w W : World) (h : W = ((((w.alloc (.cells zero40 40)).alloc (.cells (ints [1]).toArray 3)).alloc (.cells (ints [2]).toArray 3)).alloc (.cells (ints [1, 2]).toArray 3)).alloc (.cells (ints [-1, -2, 1, 2]).toArray 3)) :
    KS w W ∧ IntsB (w.heap.size + 1) W (.slice (some ⟨w.heap.size + 1, 0, none⟩) 1 1) [1] ∧ IntsB (w.heap.size + 1) W (.slice (some ⟨w.heap.size + 1 + 1, 0, none⟩) 1 1) [2] ∧ IntsB (w.heap.size + 1) W (.slice (some ⟨w.heap.size + 1 + 1 + 1, 0, none⟩) 2 2) [1, 2] ∧ IntsB (w.heap.size + 1) W (.slice (some ⟨w.heap.size + 1 + 1 + 1 + 1, 0, none⟩) 4 4) [-1, -2, 1, 2] := by
  subst h
  have hb : ∀ (V : World) (o : Obj), Below V.heap.size V (V.alloc o) := fun V o => (Below.refl _ _).alloc (Nat.le_refl _) _
  have s0 : KS w (w.alloc (.cells zero40 40)) := ⟨hb _ _, heap_alloc_new w _⟩
  have s1 := s0.below' (hb _ (.cells (ints [1]).toArray 3))
  have s2 := s1.below' (hb _ (.cells (ints [2]).toArray 3))
  have s3 := s2.below' (hb _ (.cells (ints [1, 2]).toArray 3))
  have s4 := s3.below' (hb _ (.cells (ints [-1, -2, 1, 2]).toArray 3))
  have f4 := (((IntsB.lit (base := w.heap.size + 1) _ [1] (fits_lit (by decide)) (n := 1) rfl (by omega) s0.lt).below (hb _ (.cells (ints [2]).toArray 3))).below (hb _ (.cells (ints [1, 2]).toArray 3))).below (hb _ (.cells (ints [-1, -2, 1, 2]).toArray 3))
  have f5 := ((IntsB.lit (base := w.heap.size + 1) _ [2] (fits_lit (by decide)) (n := 1) rfl (by omega) s1.lt).below (hb _ (.cells (ints [1, 2]).toArray 3))).below (hb _ (.cells (ints [-1, -2, 1, 2]).toArray 3))
  have f6 := (IntsB.lit (base := w.heap.size + 1) _ [1, 2] (fits_lit (by decide)) (n := 2) rfl (by omega) s2.lt).below (hb _ (.cells (ints [-1, -2, 1, 2]).toArray 3))
  have f7 := IntsB.lit (base := w.heap.size + 1) _ [-1, -2, 1, 2] (fits_lit (by decide)) (n := 4) rfl (by omega) s3.lt
  simp only [World.size_alloc] at f4 f5 f6 f7
  exact ⟨s4, f4, f5, f6, f7⟩
theorem known_end {w W : World} (h : KS w W) {us : List Value} {xs : List (List Int)} {n : Nat} (hn : us.length = n) (hl : xs.length = n) (hr : ∀ i, i < n → IntsB (w.heap.size + 1) W (us.getD i undef) (xs.getD i [])) (hm : n ≤ 1000) (g : Int) :
    (W.alloc (.cells us.toArray 25)).heap[w.heap.size]? = some (.cells zero40 40 (0, 0)) ∧
      TabB (w.heap.size + 1) ((W.alloc (.cells us.toArray 25)).setRow w.heap.size #[.int .i64 g, .slice (some ⟨W.heap.size, 0, none⟩) n n]) (.slice (some ⟨W.heap.size, 0, none⟩) xs.length n) xs ∧
      Below w.heap.size w ((W.alloc (.cells us.toArray 25)).setRow w.heap.size #[.int .i64 g, .slice (some ⟨W.heap.size, 0, none⟩) n n]) := by
  have hb : Below W.heap.size W (W.alloc (.cells us.toArray 25)) := (Below.refl _ _).alloc (Nat.le_refl _) _
  have h2 := h.below' hb
  refine ⟨h2.box, ?_, below_setRow h2.below (Nat.le_refl _) _⟩
  rw [hl]
  exact (TabB.lit W us xs hn (by omega) (by omega) h.lt (fun i hi => hr i (by omega))).keep (by rw [World.setRow]; simp) fun k hk _ => setRow_other _ _ k _ (by omega)
end Go.Proofs
namespace Go.Proofs
open Go.RowKit Go.Shelf Go.Proofs.Ct Go.Maps
set_option maxRecDepth 100000 in
set_option maxHeartbeats 2000000 in
theorem known60_0 (w : World) (x : Int) (hx : x % 14 = 0) : Calls Try.prog 60 #[.int .i64 x] w (KnownPost 1 [powW [1] 7] 7 w) := by
  have HT : Hid (∀ W, Calls Try.prog 59 #[.int .i64 x, .int .i64 14] W fun e w' => e = .returned (.int .i64 0) ∧ w' = W) := Lib.hid fun W => by
    have := turn59_any W x 14 (by omega)
    rwa [show ((14 : Nat) : Int) = 14 from rfl, hx] at this
  clear hx
  unfold KnownPost
  go_enter Try.func60, Try.ntmps60
  go_wp2_with ((with_reducible refine wpList_sel 2 ?_); refine wpList_val rfl (r_alloc40 rfl) ?_)
  refine (HT.out _).mono ?_
  rintro e w1 ⟨rfl, h0⟩
  obtain ⟨hS, f4, f5, f6, f7⟩ := known_start w w1 h0
  have HS := Lib.hid hS
  have F4 := Lib.hid f4
  have F5 := Lib.hid f5
  have F6 := Lib.hid f6
  have F7 := Lib.hid f7
  clear hS f4 f5 f6 f7 h0
  go_wp2_with fail
  refine (powerK _ _ [1] 7 7 F4.out.at_ (by omega) (by decide) rfl).mono ?_
  rintro e w2 ⟨A17, c17, rfl, ho, hb⟩
  have hnew := IntsB.own (base := w.heap.size + 1) ho (fits_lit (by decide)) HS.out.lt
  have HS := Lib.hid (HS.out.below' hb)
  have F4 := Lib.hid (F4.out.below hb)
  have F5 := Lib.hid (F5.out.below hb)
  have F6 := Lib.hid (F6.out.below hb)
  have F7 := Lib.hid (F7.out.below hb)
  have F17 := Lib.hid hnew
  clear ho hb hnew
  have hrow : ∀ i, i < 1 → IntsB (w.heap.size + 1) (w2) (([.slice A17 7 c17] : List Value).getD i undef) (([powW [1] 7] : List W).getD i []) := fun i hi => by
    have : i = 0 := by omega
    rcases this with rfl
    · exact F17.out
  have hend := known_end HS.out (us := [.slice A17 7 c17]) (xs := [powW [1] 7]) (n := 1) rfl rfl hrow (by omega) 1
  have HEND := Lib.hid hend
  clear hend hrow
  go_wp2_with ((with_reducible refine wpList_sel 19 ?_); refine wpList_val rfl (r_build40s _ (.tmp 18) 1 _ _ _ rfl rfl rfl) ?_; refine wpList_skip rfl (r_store40 (.tmp 2) (.tmp 19) rfl w.heap.size zero40 _ rfl rfl HEND.out.1 rfl rfl (one40 _ _ _ _)) ?_)
  try simp only [Exit.inBlock, Exit.then]
  refine bodyPost_ret (results_40_tmp (p := 2) (q := 3) rfl _ _ w.heap.size _ (.int .i64 7) rfl rfl (setRow_heap _ _ _ _ _ _ HEND.out.1) rfl) rfl ⟨⟨_, _, rfl, HEND.out.2.1⟩, HEND.out.2.2⟩
set_option maxRecDepth 100000 in
set_option maxHeartbeats 2000000 in
theorem known60_1 (w : World) (x : Int) (hx : x % 14 = 1) : Calls Try.prog 60 #[.int .i64 x] w (KnownPost 2 [powW [1] 2, powW [2] 2, powW [1, 2] 5] 10 w) := by
  have HT : Hid (∀ W, Calls Try.prog 59 #[.int .i64 x, .int .i64 14] W fun e w' => e = .returned (.int .i64 1) ∧ w' = W) := Lib.hid fun W => by
    have := turn59_any W x 14 (by omega)
    rwa [show ((14 : Nat) : Int) = 14 from rfl, hx] at this
  clear hx
  unfold KnownPost
  go_enter Try.func60, Try.ntmps60
  go_wp2_with ((with_reducible refine wpList_sel 2 ?_); refine wpList_val rfl (r_alloc40 rfl) ?_)
  refine (HT.out _).mono ?_
  rintro e w1 ⟨rfl, h0⟩
  obtain ⟨hS, f4, f5, f6, f7⟩ := known_start w w1 h0
  have HS := Lib.hid hS
  have F4 := Lib.hid f4
  have F5 := Lib.hid f5
  have F6 := Lib.hid f6
  have F7 := Lib.hid f7
  clear hS f4 f5 f6 f7 h0
  go_wp2_with fail
  refine (powerK _ _ [1] 2 2 F4.out.at_ (by omega) (by decide) rfl).mono ?_
  rintro e w2 ⟨A23, c23, rfl, ho, hb⟩
  have hnew := IntsB.own (base := w.heap.size + 1) ho (fits_lit (by decide)) HS.out.lt
  have HS := Lib.hid (HS.out.below' hb)
  have F4 := Lib.hid (F4.out.below hb)
  have F5 := Lib.hid (F5.out.below hb)
  have F6 := Lib.hid (F6.out.below hb)
  have F7 := Lib.hid (F7.out.below hb)
  have F23 := Lib.hid hnew
  clear ho hb hnew
  go_wp2_with fail
  refine (powerK _ _ [2] 2 2 F5.out.at_ (by omega) (by decide) rfl).mono ?_
  rintro e w3 ⟨A25, c25, rfl, ho, hb⟩
  have hnew := IntsB.own (base := w.heap.size + 1) ho (fits_lit (by decide)) HS.out.lt
  have HS := Lib.hid (HS.out.below' hb)
  have F4 := Lib.hid (F4.out.below hb)
  have F5 := Lib.hid (F5.out.below hb)
  have F6 := Lib.hid (F6.out.below hb)
  have F7 := Lib.hid (F7.out.below hb)
  have F23 := Lib.hid (F23.out.below hb)
  have F25 := Lib.hid hnew
  clear ho hb hnew
  go_wp2_with fail
  refine (powerK _ _ [1, 2] 5 10 F6.out.at_ (by omega) (by decide) rfl).mono ?_
  rintro e w4 ⟨A27, c27, rfl, ho, hb⟩
  have hnew := IntsB.own (base := w.heap.size + 1) ho (fits_lit (by decide)) HS.out.lt
  have HS := Lib.hid (HS.out.below' hb)
  have F4 := Lib.hid (F4.out.below hb)
  have F5 := Lib.hid (F5.out.below hb)
  have F6 := Lib.hid (F6.out.below hb)
  have F7 := Lib.hid (F7.out.below hb)
  have F23 := Lib.hid (F23.out.below hb)
  have F25 := Lib.hid (F25.out.below hb)
  have F27 := Lib.hid hnew
  clear ho hb hnew
  have hrow : ∀ i, i < 3 → IntsB (w.heap.size + 1) (w4) (([.slice A23 2 c23, .slice A25 2 c25, .slice A27 10 c27] : List Value).getD i undef) (([powW [1] 2, powW [2] 2, powW [1, 2] 5] : List W).getD i []) := fun i hi => by
    have : i = 0 ∨ i = 1 ∨ i = 2 := by omega
    rcases this with rfl | rfl | rfl
    · exact F23.out
    · exact F25.out
    · exact F27.out
  have hend := known_end HS.out (us := [.slice A23 2 c23, .slice A25 2 c25, .slice A27 10 c27]) (xs := [powW [1] 2, powW [2] 2, powW [1, 2] 5]) (n := 3) rfl rfl hrow (by omega) 2
  have HEND := Lib.hid hend
  clear hend hrow
  go_wp2_with ((with_reducible refine wpList_sel 29 ?_); refine wpList_val rfl (r_build40s _ (.tmp 28) 2 _ _ _ rfl rfl rfl) ?_; refine wpList_skip rfl (r_store40 (.tmp 2) (.tmp 29) rfl w.heap.size zero40 _ rfl rfl HEND.out.1 rfl rfl (one40 _ _ _ _)) ?_)
  try simp only [Exit.inBlock, Exit.then]
  refine bodyPost_ret (results_40_tmp (p := 2) (q := 3) rfl _ _ w.heap.size _ (.int .i64 10) rfl rfl (setRow_heap _ _ _ _ _ _ HEND.out.1) rfl) rfl ⟨⟨_, _, rfl, HEND.out.2.1⟩, HEND.out.2.2⟩
set_option maxRecDepth 100000 in
set_option maxHeartbeats 2000000 in
theorem known60_2 (w : World) (x : Int) (hx : x % 14 = 2) : Calls Try.prog 60 #[.int .i64 x] w (KnownPost 2 [powW [1] 2, powW [2] 3, powW [1, 2] 3] 12 w) := by
  have HT : Hid (∀ W, Calls Try.prog 59 #[.int .i64 x, .int .i64 14] W fun e w' => e = .returned (.int .i64 2) ∧ w' = W) := Lib.hid fun W => by
    have := turn59_any W x 14 (by omega)
    rwa [show ((14 : Nat) : Int) = 14 from rfl, hx] at this
  clear hx
  unfold KnownPost
  go_enter Try.func60, Try.ntmps60
  go_wp2_with ((with_reducible refine wpList_sel 2 ?_); refine wpList_val rfl (r_alloc40 rfl) ?_)
  refine (HT.out _).mono ?_
  rintro e w1 ⟨rfl, h0⟩
  obtain ⟨hS, f4, f5, f6, f7⟩ := known_start w w1 h0
  have HS := Lib.hid hS
  have F4 := Lib.hid f4
  have F5 := Lib.hid f5
  have F6 := Lib.hid f6
  have F7 := Lib.hid f7
  clear hS f4 f5 f6 f7 h0
  go_wp2_with fail
  refine (powerK _ _ [1] 2 2 F4.out.at_ (by omega) (by decide) rfl).mono ?_
  rintro e w2 ⟨A33, c33, rfl, ho, hb⟩
  have hnew := IntsB.own (base := w.heap.size + 1) ho (fits_lit (by decide)) HS.out.lt
  have HS := Lib.hid (HS.out.below' hb)
  have F4 := Lib.hid (F4.out.below hb)
  have F5 := Lib.hid (F5.out.below hb)
  have F6 := Lib.hid (F6.out.below hb)
  have F7 := Lib.hid (F7.out.below hb)
  have F33 := Lib.hid hnew
  clear ho hb hnew
  go_wp2_with fail
  refine (powerK _ _ [2] 3 3 F5.out.at_ (by omega) (by decide) rfl).mono ?_
  rintro e w3 ⟨A35, c35, rfl, ho, hb⟩
  have hnew := IntsB.own (base := w.heap.size + 1) ho (fits_lit (by decide)) HS.out.lt
  have HS := Lib.hid (HS.out.below' hb)
  have F4 := Lib.hid (F4.out.below hb)
  have F5 := Lib.hid (F5.out.below hb)
  have F6 := Lib.hid (F6.out.below hb)
  have F7 := Lib.hid (F7.out.below hb)
  have F33 := Lib.hid (F33.out.below hb)
  have F35 := Lib.hid hnew
  clear ho hb hnew
  go_wp2_with fail
  refine (powerK _ _ [1, 2] 3 6 F6.out.at_ (by omega) (by decide) rfl).mono ?_
  rintro e w4 ⟨A37, c37, rfl, ho, hb⟩
  have hnew := IntsB.own (base := w.heap.size + 1) ho (fits_lit (by decide)) HS.out.lt
  have HS := Lib.hid (HS.out.below' hb)
  have F4 := Lib.hid (F4.out.below hb)
  have F5 := Lib.hid (F5.out.below hb)
  have F6 := Lib.hid (F6.out.below hb)
  have F7 := Lib.hid (F7.out.below hb)
  have F33 := Lib.hid (F33.out.below hb)
  have F35 := Lib.hid (F35.out.below hb)
  have F37 := Lib.hid hnew
  clear ho hb hnew
  have hrow : ∀ i, i < 3 → IntsB (w.heap.size + 1) (w4) (([.slice A33 2 c33, .slice A35 3 c35, .slice A37 6 c37] : List Value).getD i undef) (([powW [1] 2, powW [2] 3, powW [1, 2] 3] : List W).getD i []) := fun i hi => by
    have : i = 0 ∨ i = 1 ∨ i = 2 := by omega
    rcases this with rfl | rfl | rfl
    · exact F33.out
    · exact F35.out
    · exact F37.out
  have hend := known_end HS.out (us := [.slice A33 2 c33, .slice A35 3 c35, .slice A37 6 c37]) (xs := [powW [1] 2, powW [2] 3, powW [1, 2] 3]) (n := 3) rfl rfl hrow (by omega) 2
  have HEND := Lib.hid hend
  clear hend hrow
  go_wp2_with ((with_reducible refine wpList_sel 39 ?_); refine wpList_val rfl (r_build40s _ (.tmp 38) 2 _ _ _ rfl rfl rfl) ?_; refine wpList_skip rfl (r_store40 (.tmp 2) (.tmp 39) rfl w.heap.size zero40 _ rfl rfl HEND.out.1 rfl rfl (one40 _ _ _ _)) ?_)
  try simp only [Exit.inBlock, Exit.then]
  refine bodyPost_ret (results_40_tmp (p := 2) (q := 3) rfl _ _ w.heap.size _ (.int .i64 12) rfl rfl (setRow_heap _ _ _ _ _ _ HEND.out.1) rfl) rfl ⟨⟨_, _, rfl, HEND.out.2.1⟩, HEND.out.2.2⟩
set_option maxRecDepth 100000 in
set_option maxHeartbeats 2000000 in
theorem known60_3 (w : World) (x : Int) (hx : x % 14 = 3) : Calls Try.prog 60 #[.int .i64 x] w (KnownPost 2 [powW [1] 2, powW [2] 3, powW [1, 2] 4] 24 w) := by
  have HT : Hid (∀ W, Calls Try.prog 59 #[.int .i64 x, .int .i64 14] W fun e w' => e = .returned (.int .i64 3) ∧ w' = W) := Lib.hid fun W => by
    have := turn59_any W x 14 (by omega)
    rwa [show ((14 : Nat) : Int) = 14 from rfl, hx] at this
  clear hx
  unfold KnownPost
  go_enter Try.func60, Try.ntmps60
  go_wp2_with ((with_reducible refine wpList_sel 2 ?_); refine wpList_val rfl (r_alloc40 rfl) ?_)
  refine (HT.out _).mono ?_
  rintro e w1 ⟨rfl, h0⟩
  obtain ⟨hS, f4, f5, f6, f7⟩ := known_start w w1 h0
  have HS := Lib.hid hS
  have F4 := Lib.hid f4
  have F5 := Lib.hid f5
  have F6 := Lib.hid f6
  have F7 := Lib.hid f7
  clear hS f4 f5 f6 f7 h0
  go_wp2_with fail
  refine (powerK _ _ [1] 2 2 F4.out.at_ (by omega) (by decide) rfl).mono ?_
  rintro e w2 ⟨A43, c43, rfl, ho, hb⟩
  have hnew := IntsB.own (base := w.heap.size + 1) ho (fits_lit (by decide)) HS.out.lt
  have HS := Lib.hid (HS.out.below' hb)
  have F4 := Lib.hid (F4.out.below hb)
  have F5 := Lib.hid (F5.out.below hb)
  have F6 := Lib.hid (F6.out.below hb)
  have F7 := Lib.hid (F7.out.below hb)
  have F43 := Lib.hid hnew
  clear ho hb hnew
  go_wp2_with fail
  refine (powerK _ _ [2] 3 3 F5.out.at_ (by omega) (by decide) rfl).mono ?_
  rintro e w3 ⟨A45, c45, rfl, ho, hb⟩
  have hnew := IntsB.own (base := w.heap.size + 1) ho (fits_lit (by decide)) HS.out.lt
  have HS := Lib.hid (HS.out.below' hb)
  have F4 := Lib.hid (F4.out.below hb)
  have F5 := Lib.hid (F5.out.below hb)
  have F6 := Lib.hid (F6.out.below hb)
  have F7 := Lib.hid (F7.out.below hb)
  have F43 := Lib.hid (F43.out.below hb)
  have F45 := Lib.hid hnew
  clear ho hb hnew
  go_wp2_with fail
  refine (powerK _ _ [1, 2] 4 8 F6.out.at_ (by omega) (by decide) rfl).mono ?_
  rintro e w4 ⟨A47, c47, rfl, ho, hb⟩
  have hnew := IntsB.own (base := w.heap.size + 1) ho (fits_lit (by decide)) HS.out.lt
  have HS := Lib.hid (HS.out.below' hb)
  have F4 := Lib.hid (F4.out.below hb)
  have F5 := Lib.hid (F5.out.below hb)
  have F6 := Lib.hid (F6.out.below hb)
  have F7 := Lib.hid (F7.out.below hb)
  have F43 := Lib.hid (F43.out.below hb)
  have F45 := Lib.hid (F45.out.below hb)
  have F47 := Lib.hid hnew
  clear ho hb hnew
  have hrow : ∀ i, i < 3 → IntsB (w.heap.size + 1) (w4) (([.slice A43 2 c43, .slice A45 3 c45, .slice A47 8 c47] : List Value).getD i undef) (([powW [1] 2, powW [2] 3, powW [1, 2] 4] : List W).getD i []) := fun i hi => by
    have : i = 0 ∨ i = 1 ∨ i = 2 := by omega
    rcases this with rfl | rfl | rfl
    · exact F43.out
    · exact F45.out
    · exact F47.out
  have hend := known_end HS.out (us := [.slice A43 2 c43, .slice A45 3 c45, .slice A47 8 c47]) (xs := [powW [1] 2, powW [2] 3, powW [1, 2] 4]) (n := 3) rfl rfl hrow (by omega) 2
  have HEND := Lib.hid hend
  clear hend hrow
  go_wp2_with ((with_reducible refine wpList_sel 49 ?_); refine wpList_val rfl (r_build40s _ (.tmp 48) 2 _ _ _ rfl rfl rfl) ?_; refine wpList_skip rfl (r_store40 (.tmp 2) (.tmp 49) rfl w.heap.size zero40 _ rfl rfl HEND.out.1 rfl rfl (one40 _ _ _ _)) ?_)
  try simp only [Exit.inBlock, Exit.then]
  refine bodyPost_ret (results_40_tmp (p := 2) (q := 3) rfl _ _ w.heap.size _ (.int .i64 24) rfl rfl (setRow_heap _ _ _ _ _ _ HEND.out.1) rfl) rfl ⟨⟨_, _, rfl, HEND.out.2.1⟩, HEND.out.2.2⟩
set_option maxRecDepth 100000 in
set_option maxHeartbeats 2000000 in
theorem known60_4 (w : World) (x : Int) (hx : x % 14 = 4) : Calls Try.prog 60 #[.int .i64 x] w (KnownPost 2 [powW [1] 2, powW [2] 3, powW [1, 2] 5] 60 w) := by
  have HT : Hid (∀ W, Calls Try.prog 59 #[.int .i64 x, .int .i64 14] W fun e w' => e = .returned (.int .i64 4) ∧ w' = W) := Lib.hid fun W => by
    have := turn59_any W x 14 (by omega)
    rwa [show ((14 : Nat) : Int) = 14 from rfl, hx] at this
  clear hx
  unfold KnownPost
  go_enter Try.func60, Try.ntmps60
  go_wp2_with ((with_reducible refine wpList_sel 2 ?_); refine wpList_val rfl (r_alloc40 rfl) ?_)
  refine (HT.out _).mono ?_
  rintro e w1 ⟨rfl, h0⟩
  obtain ⟨hS, f4, f5, f6, f7⟩ := known_start w w1 h0
  have HS := Lib.hid hS
  have F4 := Lib.hid f4
  have F5 := Lib.hid f5
  have F6 := Lib.hid f6
  have F7 := Lib.hid f7
  clear hS f4 f5 f6 f7 h0
  go_wp2_with fail
  refine (powerK _ _ [1] 2 2 F4.out.at_ (by omega) (by decide) rfl).mono ?_
  rintro e w2 ⟨A53, c53, rfl, ho, hb⟩
  have hnew := IntsB.own (base := w.heap.size + 1) ho (fits_lit (by decide)) HS.out.lt
  have HS := Lib.hid (HS.out.below' hb)
  have F4 := Lib.hid (F4.out.below hb)
  have F5 := Lib.hid (F5.out.below hb)
  have F6 := Lib.hid (F6.out.below hb)
  have F7 := Lib.hid (F7.out.below hb)
  have F53 := Lib.hid hnew
  clear ho hb hnew
  go_wp2_with fail
  refine (powerK _ _ [2] 3 3 F5.out.at_ (by omega) (by decide) rfl).mono ?_
  rintro e w3 ⟨A55, c55, rfl, ho, hb⟩
  have hnew := IntsB.own (base := w.heap.size + 1) ho (fits_lit (by decide)) HS.out.lt
  have HS := Lib.hid (HS.out.below' hb)
  have F4 := Lib.hid (F4.out.below hb)
  have F5 := Lib.hid (F5.out.below hb)
  have F6 := Lib.hid (F6.out.below hb)
  have F7 := Lib.hid (F7.out.below hb)
  have F53 := Lib.hid (F53.out.below hb)
  have F55 := Lib.hid hnew
  clear ho hb hnew
  go_wp2_with fail
  refine (powerK _ _ [1, 2] 5 10 F6.out.at_ (by omega) (by decide) rfl).mono ?_
  rintro e w4 ⟨A57, c57, rfl, ho, hb⟩
  have hnew := IntsB.own (base := w.heap.size + 1) ho (fits_lit (by decide)) HS.out.lt
  have HS := Lib.hid (HS.out.below' hb)
  have F4 := Lib.hid (F4.out.below hb)
  have F5 := Lib.hid (F5.out.below hb)
  have F6 := Lib.hid (F6.out.below hb)
  have F7 := Lib.hid (F7.out.below hb)
  have F53 := Lib.hid (F53.out.below hb)
  have F55 := Lib.hid (F55.out.below hb)
  have F57 := Lib.hid hnew
  clear ho hb hnew
  have hrow : ∀ i, i < 3 → IntsB (w.heap.size + 1) (w4) (([.slice A53 2 c53, .slice A55 3 c55, .slice A57 10 c57] : List Value).getD i undef) (([powW [1] 2, powW [2] 3, powW [1, 2] 5] : List W).getD i []) := fun i hi => by
    have : i = 0 ∨ i = 1 ∨ i = 2 := by omega
    rcases this with rfl | rfl | rfl
    · exact F53.out
    · exact F55.out
    · exact F57.out
  have hend := known_end HS.out (us := [.slice A53 2 c53, .slice A55 3 c55, .slice A57 10 c57]) (xs := [powW [1] 2, powW [2] 3, powW [1, 2] 5]) (n := 3) rfl rfl hrow (by omega) 2
  have HEND := Lib.hid hend
  clear hend hrow
  go_wp2_with ((with_reducible refine wpList_sel 59 ?_); refine wpList_val rfl (r_build40s _ (.tmp 58) 2 _ _ _ rfl rfl rfl) ?_; refine wpList_skip rfl (r_store40 (.tmp 2) (.tmp 59) rfl w.heap.size zero40 _ rfl rfl HEND.out.1 rfl rfl (one40 _ _ _ _)) ?_)
  try simp only [Exit.inBlock, Exit.then]
  refine bodyPost_ret (results_40_tmp (p := 2) (q := 3) rfl _ _ w.heap.size _ (.int .i64 60) rfl rfl (setRow_heap _ _ _ _ _ _ HEND.out.1) rfl) rfl ⟨⟨_, _, rfl, HEND.out.2.1⟩, HEND.out.2.2⟩
set_option maxRecDepth 100000 in
set_option maxHeartbeats 2000000 in
theorem known60_5 (w : World) (x : Int) (hx : x % 14 = 5) : Calls Try.prog 60 #[.int .i64 x] w (KnownPost 2 [powW [1] 4, [1, 1, -2, -2], [-2, 1, 2, 1]] 8 w) := by
  have HT : Hid (∀ W, Calls Try.prog 59 #[.int .i64 x, .int .i64 14] W fun e w' => e = .returned (.int .i64 5) ∧ w' = W) := Lib.hid fun W => by
    have := turn59_any W x 14 (by omega)
    rwa [show ((14 : Nat) : Int) = 14 from rfl, hx] at this
  clear hx
  unfold KnownPost
  go_enter Try.func60, Try.ntmps60
  go_wp2_with ((with_reducible refine wpList_sel 2 ?_); refine wpList_val rfl (r_alloc40 rfl) ?_)
  refine (HT.out _).mono ?_
  rintro e w1 ⟨rfl, h0⟩
  obtain ⟨hS, f4, f5, f6, f7⟩ := known_start w w1 h0
  have HS := Lib.hid hS
  have F4 := Lib.hid f4
  have F5 := Lib.hid f5
  have F6 := Lib.hid f6
  have F7 := Lib.hid f7
  clear hS f4 f5 f6 f7 h0
  go_wp2_with fail
  refine (powerK _ _ [1] 4 4 F4.out.at_ (by omega) (by decide) rfl).mono ?_
  rintro e w2 ⟨A63, c63, rfl, ho, hb⟩
  have hnew := IntsB.own (base := w.heap.size + 1) ho (fits_lit (by decide)) HS.out.lt
  have HS := Lib.hid (HS.out.below' hb)
  have F4 := Lib.hid (F4.out.below hb)
  have F5 := Lib.hid (F5.out.below hb)
  have F6 := Lib.hid (F6.out.below hb)
  have F7 := Lib.hid (F7.out.below hb)
  have F63 := Lib.hid hnew
  clear ho hb hnew
  have hal : Below (w2).heap.size (w2) ((w2).alloc (.cells (ints [1, 1, -2, -2]).toArray 3)) := (Below.refl _ _).alloc (Nat.le_refl _) _
  have hnew := IntsB.lit (base := w.heap.size + 1) (w2) [1, 1, -2, -2] (fits_lit (by decide)) (n := 4) rfl (by omega) HS.out.lt
  have HS := Lib.hid (HS.out.below' hal)
  have F4 := Lib.hid (F4.out.below hal)
  have F5 := Lib.hid (F5.out.below hal)
  have F6 := Lib.hid (F6.out.below hal)
  have F7 := Lib.hid (F7.out.below hal)
  have F63 := Lib.hid (F63.out.below hal)
  have F64 := Lib.hid hnew
  clear hal hnew
  have hal : Below ((w2).alloc (.cells (ints [1, 1, -2, -2]).toArray 3)).heap.size ((w2).alloc (.cells (ints [1, 1, -2, -2]).toArray 3)) (((w2).alloc (.cells (ints [1, 1, -2, -2]).toArray 3)).alloc (.cells (ints [-2, 1, 2, 1]).toArray 3)) := (Below.refl _ _).alloc (Nat.le_refl _) _
  have hnew := IntsB.lit (base := w.heap.size + 1) ((w2).alloc (.cells (ints [1, 1, -2, -2]).toArray 3)) [-2, 1, 2, 1] (fits_lit (by decide)) (n := 4) rfl (by omega) HS.out.lt
  simp only [World.size_alloc] at hnew
  have HS := Lib.hid (HS.out.below' hal)
  have F4 := Lib.hid (F4.out.below hal)
  have F5 := Lib.hid (F5.out.below hal)
  have F6 := Lib.hid (F6.out.below hal)
  have F7 := Lib.hid (F7.out.below hal)
  have F63 := Lib.hid (F63.out.below hal)
  have F64 := Lib.hid (F64.out.below hal)
  have F65 := Lib.hid hnew
  clear hal hnew
  have hrow : ∀ i, i < 3 → IntsB (w.heap.size + 1) (((w2).alloc (.cells (ints [1, 1, -2, -2]).toArray 3)).alloc (.cells (ints [-2, 1, 2, 1]).toArray 3)) (([.slice A63 4 c63, .slice (some ⟨w2.heap.size, 0, none⟩) 4 4, .slice (some ⟨w2.heap.size + 1, 0, none⟩) 4 4] : List Value).getD i undef) (([powW [1] 4, [1, 1, -2, -2], [-2, 1, 2, 1]] : List W).getD i []) := fun i hi => by
    have : i = 0 ∨ i = 1 ∨ i = 2 := by omega
    rcases this with rfl | rfl | rfl
    · exact F63.out
    · exact F64.out
    · exact F65.out
  have hend := known_end HS.out (us := [.slice A63 4 c63, .slice (some ⟨w2.heap.size, 0, none⟩) 4 4, .slice (some ⟨w2.heap.size + 1, 0, none⟩) 4 4]) (xs := [powW [1] 4, [1, 1, -2, -2], [-2, 1, 2, 1]]) (n := 3) rfl rfl hrow (by omega) 2
  simp only [World.size_alloc] at hend
  have HEND := Lib.hid hend
  clear hend hrow
  go_wp2_with ((with_reducible refine wpList_sel 67 ?_); refine wpList_val rfl (r_build40s _ (.tmp 66) 2 _ _ _ rfl rfl rfl) ?_; refine wpList_skip rfl (r_store40 (.tmp 2) (.tmp 67) rfl w.heap.size zero40 _ rfl rfl HEND.out.1 rfl rfl (one40 _ _ _ _)) ?_)
  try simp only [Exit.inBlock, Exit.then]
  refine bodyPost_ret (results_40_tmp (p := 2) (q := 3) rfl _ _ w.heap.size _ (.int .i64 8) rfl rfl (setRow_heap _ _ _ _ _ _ HEND.out.1) rfl) rfl ⟨⟨_, _, rfl, HEND.out.2.1⟩, HEND.out.2.2⟩
set_option maxRecDepth 100000 in
set_option maxHeartbeats 2000000 in
theorem known60_6 (w : World) (x : Int) (hx : x % 14 = 6) : Calls Try.prog 60 #[.int .i64 x] w (KnownPost 2 [powW [1] 3, powW [2] 3, powW [1, 2] 3, powW [1, -2] 3] 27 w) := by
  have HT : Hid (∀ W, Calls Try.prog 59 #[.int .i64 x, .int .i64 14] W fun e w' => e = .returned (.int .i64 6) ∧ w' = W) := Lib.hid fun W => by
    have := turn59_any W x 14 (by omega)
    rwa [show ((14 : Nat) : Int) = 14 from rfl, hx] at this
  clear hx
  unfold KnownPost
  go_enter Try.func60, Try.ntmps60
  go_wp2_with ((with_reducible refine wpList_sel 2 ?_); refine wpList_val rfl (r_alloc40 rfl) ?_)
  refine (HT.out _).mono ?_
  rintro e w1 ⟨rfl, h0⟩
  obtain ⟨hS, f4, f5, f6, f7⟩ := known_start w w1 h0
  have HS := Lib.hid hS
  have F4 := Lib.hid f4
  have F5 := Lib.hid f5
  have F6 := Lib.hid f6
  have F7 := Lib.hid f7
  clear hS f4 f5 f6 f7 h0
  go_wp2_with fail
  refine (powerK _ _ [1] 3 3 F4.out.at_ (by omega) (by decide) rfl).mono ?_
  rintro e w2 ⟨A71, c71, rfl, ho, hb⟩
  have hnew := IntsB.own (base := w.heap.size + 1) ho (fits_lit (by decide)) HS.out.lt
  have HS := Lib.hid (HS.out.below' hb)
  have F4 := Lib.hid (F4.out.below hb)
  have F5 := Lib.hid (F5.out.below hb)
  have F6 := Lib.hid (F6.out.below hb)
  have F7 := Lib.hid (F7.out.below hb)
  have F71 := Lib.hid hnew
  clear ho hb hnew
  go_wp2_with fail
  refine (powerK _ _ [2] 3 3 F5.out.at_ (by omega) (by decide) rfl).mono ?_
  rintro e w3 ⟨A73, c73, rfl, ho, hb⟩
  have hnew := IntsB.own (base := w.heap.size + 1) ho (fits_lit (by decide)) HS.out.lt
  have HS := Lib.hid (HS.out.below' hb)
  have F4 := Lib.hid (F4.out.below hb)
  have F5 := Lib.hid (F5.out.below hb)
  have F6 := Lib.hid (F6.out.below hb)
  have F7 := Lib.hid (F7.out.below hb)
  have F71 := Lib.hid (F71.out.below hb)
  have F73 := Lib.hid hnew
  clear ho hb hnew
  go_wp2_with fail
  refine (powerK _ _ [1, 2] 3 6 F6.out.at_ (by omega) (by decide) rfl).mono ?_
  rintro e w4 ⟨A75, c75, rfl, ho, hb⟩
  have hnew := IntsB.own (base := w.heap.size + 1) ho (fits_lit (by decide)) HS.out.lt
  have HS := Lib.hid (HS.out.below' hb)
  have F4 := Lib.hid (F4.out.below hb)
  have F5 := Lib.hid (F5.out.below hb)
  have F6 := Lib.hid (F6.out.below hb)
  have F7 := Lib.hid (F7.out.below hb)
  have F71 := Lib.hid (F71.out.below hb)
  have F73 := Lib.hid (F73.out.below hb)
  have F75 := Lib.hid hnew
  clear ho hb hnew
  have hal : Below (w4).heap.size (w4) ((w4).alloc (.cells (ints [1, -2]).toArray 3)) := (Below.refl _ _).alloc (Nat.le_refl _) _
  have hnew := IntsB.lit (base := w.heap.size + 1) (w4) [1, -2] (fits_lit (by decide)) (n := 2) rfl (by omega) HS.out.lt
  have HS := Lib.hid (HS.out.below' hal)
  have F4 := Lib.hid (F4.out.below hal)
  have F5 := Lib.hid (F5.out.below hal)
  have F6 := Lib.hid (F6.out.below hal)
  have F7 := Lib.hid (F7.out.below hal)
  have F71 := Lib.hid (F71.out.below hal)
  have F73 := Lib.hid (F73.out.below hal)
  have F75 := Lib.hid (F75.out.below hal)
  have F76 := Lib.hid hnew
  clear hal hnew
  go_wp2_with fail
  refine (powerK _ _ [1, -2] 3 6 F76.out.at_ (by omega) (by decide) rfl).mono ?_
  rintro e w5 ⟨A77, c77, rfl, ho, hb⟩
  have hnew := IntsB.own (base := w.heap.size + 1) ho (fits_lit (by decide)) HS.out.lt
  have HS := Lib.hid (HS.out.below' hb)
  have F4 := Lib.hid (F4.out.below hb)
  have F5 := Lib.hid (F5.out.below hb)
  have F6 := Lib.hid (F6.out.below hb)
  have F7 := Lib.hid (F7.out.below hb)
  have F71 := Lib.hid (F71.out.below hb)
  have F73 := Lib.hid (F73.out.below hb)
  have F75 := Lib.hid (F75.out.below hb)
  have F76 := Lib.hid (F76.out.below hb)
  have F77 := Lib.hid hnew
  clear ho hb hnew
  have hrow : ∀ i, i < 4 → IntsB (w.heap.size + 1) (w5) (([.slice A71 3 c71, .slice A73 3 c73, .slice A75 6 c75, .slice A77 6 c77] : List Value).getD i undef) (([powW [1] 3, powW [2] 3, powW [1, 2] 3, powW [1, -2] 3] : List W).getD i []) := fun i hi => by
    have : i = 0 ∨ i = 1 ∨ i = 2 ∨ i = 3 := by omega
    rcases this with rfl | rfl | rfl | rfl
    · exact F71.out
    · exact F73.out
    · exact F75.out
    · exact F77.out
  have hend := known_end HS.out (us := [.slice A71 3 c71, .slice A73 3 c73, .slice A75 6 c75, .slice A77 6 c77]) (xs := [powW [1] 3, powW [2] 3, powW [1, 2] 3, powW [1, -2] 3]) (n := 4) rfl rfl hrow (by omega) 2
  have HEND := Lib.hid hend
  clear hend hrow
  go_wp2_with ((with_reducible refine wpList_sel 79 ?_); refine wpList_val rfl (r_build40s _ (.tmp 78) 2 _ _ _ rfl rfl rfl) ?_; refine wpList_skip rfl (r_store40 (.tmp 2) (.tmp 79) rfl w.heap.size zero40 _ rfl rfl HEND.out.1 rfl rfl (one40 _ _ _ _)) ?_)
  try simp only [Exit.inBlock, Exit.then]
  refine bodyPost_ret (results_40_tmp (p := 2) (q := 3) rfl _ _ w.heap.size _ (.int .i64 27) rfl rfl (setRow_heap _ _ _ _ _ _ HEND.out.1) rfl) rfl ⟨⟨_, _, rfl, HEND.out.2.1⟩, HEND.out.2.2⟩
end Go.Proofs
