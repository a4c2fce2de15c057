/- The walk of CosetKnown; Words of the call's own, by blocks; results of a presentation and a number; A greater limit changes nothing; Ways of words; what was scanned is closed; What an enumeration ends with, plainly: relators are closed everywhere, the subgroup's words at 0; the table of the living. -/
import Derived.Test.YtcfighimnkfmeaaCmCS14
import Derived.Test.YtcfighimnkfmeaaCmCS5
import Derived.Test.YtcfighimnkfmeaaCmCS7
namespace Go.Proofs
open Go.RowKit Go.Shelf Go.Proofs.Ct Go.Maps
theorem bl3 {a b c : World} (h1 : Below a.heap.size a b) (h2 : Below b.heap.size b c) : Below a.heap.size a c := h1.trans (h2.mono h1.size)
theorem below_sz {w W : World} {o : Obj} (h : Below (w.heap.size + 1) (w.alloc o) W) : Below (w.alloc o).heap.size (w.alloc o) W := by rw [World.size_alloc]; exact h
theorem eql49 (w : World) : (binOp .eql 49 (.agg #[.int .i64 1, .int .i64 1, .int .i64 0]) (.agg #[.int .i64 1, .int .i64 1, .int .i64 0])).run Try.prog w = .ok (.bool true) w := by kernel_rfl
theorem lit1 (w : World) (x : List Int) (hx : Fits x) {n : Nat} (hn : x.length = n) (hm : n ≤ 1000) {e : TypeId} :
    Tab ((w.alloc (.cells (ints x).toArray 3)).alloc (.cells #[.slice (some ⟨w.heap.size, 0, none⟩) n n] e)) (.slice (some ⟨w.heap.size + 1, 0, none⟩) 1 1) [x] := by
  have h1 := ints_lit w x hx n hn hm
  have hb : Below (w.alloc (.cells (ints x).toArray 3)).heap.size (w.alloc (.cells (ints x).toArray 3)) ((w.alloc (.cells (ints x).toArray 3)).alloc (.cells #[.slice (some ⟨w.heap.size, 0, none⟩) n n] e)) := (Below.refl _ _).alloc (Nat.le_refl _) _
  have h2 := heap_alloc_new (w.alloc (.cells (ints x).toArray 3)) (.cells #[.slice (some ⟨w.heap.size, 0, none⟩) n n] e)
  rw [World.size_alloc] at h2
  exact tab_blk (us := [.slice (some ⟨w.heap.size, 0, none⟩) n n]) h2 rfl rfl (by simp) fun i hi => by
    have : i = 0 := by simpa using hi
    subst this
    exact IntsAt.below h1 hb
theorem lit1_below (w : World) (x : List Int) (n : Nat) {e : TypeId} : Below w.heap.size w ((w.alloc (.cells (ints x).toArray 3)).alloc (.cells #[.slice (some ⟨w.heap.size, 0, none⟩) n n] e)) :=
  ((Below.refl _ _).alloc (Nat.le_refl _) _).alloc (by simp) _
theorem lit2 (w : World) (x y : List Int) (hx : Fits x) (hy : Fits y) {n m : Nat} (hn : x.length = n) (hm : y.length = m) (hs : n ≤ 1000 ∧ m ≤ 1000) {e : TypeId} :
    Tab (((w.alloc (.cells (ints x).toArray 3)).alloc (.cells (ints y).toArray 3)).alloc (.cells #[.slice (some ⟨w.heap.size, 0, none⟩) n n, .slice (some ⟨w.heap.size + 1, 0, none⟩) m m] e)) (.slice (some ⟨w.heap.size + 1 + 1, 0, none⟩) 2 2) [x, y] := by
  have h1 := ints_lit w x hx n hn hs.1
  have h2 := ints_lit (w.alloc (.cells (ints x).toArray 3)) y hy m hm hs.2
  have hb1 : Below (w.alloc (.cells (ints x).toArray 3)).heap.size (w.alloc (.cells (ints x).toArray 3)) ((w.alloc (.cells (ints x).toArray 3)).alloc (.cells (ints y).toArray 3)) := (Below.refl _ _).alloc (Nat.le_refl _) _
  have hb2 := (Below.refl _ ((w.alloc (.cells (ints x).toArray 3)).alloc (.cells (ints y).toArray 3))).alloc (Nat.le_refl _) (.cells #[.slice (some ⟨w.heap.size, 0, none⟩) n n, .slice (some ⟨w.heap.size + 1, 0, none⟩) m m] e)
  have h3 := heap_alloc_new ((w.alloc (.cells (ints x).toArray 3)).alloc (.cells (ints y).toArray 3)) (.cells #[.slice (some ⟨w.heap.size, 0, none⟩) n n, .slice (some ⟨w.heap.size + 1, 0, none⟩) m m] e)
  simp only [World.size_alloc] at h2 h3
  exact tab_blk (us := [.slice (some ⟨w.heap.size, 0, none⟩) n n, .slice (some ⟨w.heap.size + 1, 0, none⟩) m m]) h3 rfl rfl (by simp) fun i hi => by
    have : i = 0 ∨ i = 1 := by simp at hi; omega
    rcases this with rfl | rfl
    · exact (h1.below hb1).below hb2
    · exact h2.below hb2
theorem lit2_below (w : World) (x y : List Int) (n m : Nat) {e : TypeId} : Below w.heap.size w (((w.alloc (.cells (ints x).toArray 3)).alloc (.cells (ints y).toArray 3)).alloc (.cells #[.slice (some ⟨w.heap.size, 0, none⟩) n n, .slice (some ⟨w.heap.size + 1, 0, none⟩) m m] e)) :=
  (((Below.refl _ _).alloc (Nat.le_refl _) _).alloc (by simp) _).alloc (by simp; omega) _
theorem lit3 (w : World) (x y z : List Int) (hx : Fits x) (hy : Fits y) (hz : Fits z) {n m l : Nat} (hn : x.length = n) (hm : y.length = m) (hl : z.length = l) (hs : n ≤ 1000 ∧ m ≤ 1000 ∧ l ≤ 1000) {e : TypeId} :
    Tab ((((w.alloc (.cells (ints x).toArray 3)).alloc (.cells (ints y).toArray 3)).alloc (.cells (ints z).toArray 3)).alloc (.cells #[.slice (some ⟨w.heap.size, 0, none⟩) n n, .slice (some ⟨w.heap.size + 1, 0, none⟩) m m, .slice (some ⟨w.heap.size + 1 + 1, 0, none⟩) l l] e)) (.slice (some ⟨w.heap.size + 1 + 1 + 1, 0, none⟩) 3 3) [x, y, z] := by
  have h1 := ints_lit w x hx n hn hs.1
  have h2 := ints_lit (w.alloc (.cells (ints x).toArray 3)) y hy m hm hs.2.1
  have h3 := ints_lit ((w.alloc (.cells (ints x).toArray 3)).alloc (.cells (ints y).toArray 3)) z hz l hl hs.2.2
  have h4 := tab_three _ _ _ _ _ _ _ (h1.below (((Below.refl _ _).alloc (Nat.le_refl _) _).alloc (by simp) _)) (h2.below ((Below.refl _ _).alloc (Nat.le_refl _) _)) h3 (e := e)
  simp only [World.size_alloc] at h4
  exact h4
theorem lit3_below (w : World) (x y z : List Int) (n m l : Nat) {e : TypeId} : Below w.heap.size w ((((w.alloc (.cells (ints x).toArray 3)).alloc (.cells (ints y).toArray 3)).alloc (.cells (ints z).toArray 3)).alloc (.cells #[.slice (some ⟨w.heap.size, 0, none⟩) n n, .slice (some ⟨w.heap.size + 1, 0, none⟩) m m, .slice (some ⟨w.heap.size + 1 + 1, 0, none⟩) l l] e)) :=
  ((((Below.refl _ _).alloc (Nat.le_refl _) _).alloc (by simp) _).alloc (by simp; omega) _).alloc (by simp; omega) _
theorem short_of {l : List W} {m : Nat} (h : (l.all fun x => decide (x.length ≤ m)) = true) : ∀ j, (l.getD j []).length ≤ m := fun j => by
  rcases Nat.lt_or_ge j l.length with hj | hj
  · rw [List.getD_eq_getElem?_getD, List.getElem?_eq_getElem hj]
    exact of_decide_eq_true (List.all_eq_true.1 h _ (List.getElem_mem hj))
  · rw [List.getD_eq_getElem?_getD, List.getElem?_eq_none hj]
    exact Nat.zero_le _
theorem enumK (g : Int) (rels sub : List W) (limit : Int) (T : Tb) (a b c : Int) (h : enumE g rels sub limit = (T, (a, b), c)) (h1 : (sub.all fun x => decide (x.length ≤ 100000)) = true) (h2 : sub.length ≤ 1000000) (_h3 : (rels.all fun x => decide (x.length ≤ 100000)) = true) (_h4 : rels.length ≤ 1000000) (W : World) (vr vs : Value) (hr : Tab W vr rels) (hs : Tab W vs sub) :
    Calls Try.prog 32 #[.agg #[.int .i64 g, vr], vs, .int .i64 limit] W fun e w' => (∃ u, e = .returned (.tuple #[u, .agg #[.int .i64 a, .int .i64 b, .int .i64 0], .int .i64 c]) ∧ Tab w' u T) ∧ Below W.heap.size W w' :=
  (enum32_any W vr vs g rels sub limit hr hs (short_of h1) h2).mono fun e w' (⟨⟨u, h5, h6⟩, h7⟩ : EnumPost g rels sub limit W e w') => by
    rw [h] at h5 h6
    exact ⟨⟨u, h5, h6⟩, h7⟩
theorem stdK (g : Int) (t : Tb) (b : Int) (T : Tb) (c : Int) (h : stdE g t b = (T, c)) (W : World) (v : Value) (ht : Tab W v t) : Calls Try.prog 48 #[.int .i64 g, v, .int .i64 b] W fun e w' => (∃ u, e = .returned (.tuple #[u, .int .i64 c]) ∧ Tab w' u T) ∧ Below W.heap.size W w' :=
  (std48_any W v g t b ht).mono fun e w' (⟨⟨u, h5, h6⟩, h7⟩ : StdPost g t b W e w') => by
    rw [h] at h5 h6
    exact ⟨⟨u, h5, h6⟩, h7⟩
theorem checkK (g : Int) (t : Tb) (a b : Int) (h : check g t = (a, b)) (W : World) (v : Value) (ht : Tab W v t) : Calls Try.prog 43 #[.int .i64 g, v] W fun e w' => e = .returned (.tuple #[.int .i64 a, .int .i64 b]) ∧ Below W.heap.size W w' :=
  (check43_any W v g t ht).mono fun e w' (⟨h5, h7⟩ : CheckPost g t W e w') => by
    rw [h] at h5
    exact ⟨h5, h7⟩
theorem repsK (g : Int) (t : Tb) (T : Tb) (c : Int) (h : repsE g t = (T, c)) (W : World) (v : Value) (ht : Tab W v t) : Calls Try.prog 50 #[.int .i64 g, v] W fun e w' => (∃ u, e = .returned (.tuple #[u, .int .i64 c]) ∧ Tab w' u T) ∧ Below W.heap.size W w' :=
  (reps50_any W v g t ht).mono fun e w' (⟨⟨u, h5, h6⟩, h7⟩ : RepsPost g t W e w') => by
    rw [h] at h5 h6
    exact ⟨⟨u, h5, h6.at_⟩, h7⟩
theorem imgK (g : Int) (t : Tb) (T : Tb) (c : Int) (h : imgE g t = (T, c)) (W : World) (v : Value) (ht : Tab W v t) : Calls Try.prog 53 #[.int .i64 g, v] W fun e w' => (∃ u, e = .returned (.tuple #[u, .int .i64 c]) ∧ Tab w' u T) ∧ Below W.heap.size W w' :=
  (img53_any W v g t ht).mono fun e w' (⟨⟨u, h5, h6⟩, h7⟩ : ImgPost g t W e w') => by
    rw [h] at h5 h6
    exact ⟨⟨u, h5, h6⟩, h7⟩
theorem traceK (g : Int) (t : Tb) (r : Int) (ws : List Int) (a : Int) (b : Bool) (h : traceE g t r ws = (a, b)) (W : World) (v u : Value) (ht : Tab W v t) (hu : IntsAt W u ws) : Calls Try.prog 40 #[.int .i64 g, v, .int .i64 r, u] W fun e w' => e = .returned (.tuple #[.int .i64 a, .bool b]) ∧ Below W.heap.size W w' :=
  (trace40_any W v u g t r ws ht hu).mono fun e w' (⟨h5, h7⟩ : TracePostE g t r ws W e w') => by
    rw [h] at h5
    exact ⟨h5, h7⟩
theorem holdsK (g : Int) (rels sub : List W) (t : Tb) (a : Bool) (b : Int) (h : holdsE g rels sub t = (a, b)) (W : World) (vr vs vt : Value) (hr : Tab W vr rels) (hs : Tab W vs sub) (ht : Tab W vt t) : Calls Try.prog 35 #[.agg #[.int .i64 g, vr], vs, vt] W fun e w' => e = .returned (.tuple #[.bool a, .int .i64 b]) ∧ Below W.heap.size W w' :=
  (holds35_any W vr vs vt g rels sub t hr hs ht).mono fun e w' (⟨h5, h7⟩ : HoldsPost g rels sub t W e w') => by
    rw [h] at h5
    exact ⟨h5, h7⟩
set_option maxRecDepth 100000 in
set_option maxHeartbeats 8000000 in
theorem known9_any (w : World) : Calls Try.prog 9 #[] w fun e w' => e = .returned (.bool true) ∧ Below w.heap.size w w' := by
  have HE1 := Lib.hid (enumK 1 [[1, 1, 1]] [] 100 _ 3 3 0 (by decide +kernel : enumE 1 [[1, 1, 1]] [] 100 = ([[1, 2], [2, 0], [0, 1]], (3, 3), 0)) (by decide) (by decide) (by decide) (by decide))
  have HE2 := Lib.hid (enumK 1 [] [] 5 _ 0 0 12 (by decide +kernel : enumE 1 [] [] 5 = ([], (0, 0), 12)) (by decide) (by decide) (by decide) (by decide))
  have HE3 := Lib.hid (enumK 1 [[1]] [] 1 _ 1 1 0 (by decide +kernel : enumE 1 [[1]] [] 1 = ([[0, 0]], (1, 1), 0)) (by decide) (by decide) (by decide) (by decide))
  have HE4 := Lib.hid (enumK 2 smallT [[3]] 9 _ 0 0 2 (by decide +kernel : enumE 2 smallT [[3]] 9 = ([], (0, 0), 2)) (by decide) (by decide) (by decide) (by decide))
  have HE5 := Lib.hid (enumK 2 smallT [] 0 _ 0 0 2 (by decide +kernel : enumE 2 smallT [] 0 = ([], (0, 0), 2)) (by decide) (by decide) (by decide) (by decide))
  have HD1 := Lib.hid (stdK 1 [[2, 1], [0, 2], [1, 0]] 1 [[1, 2], [2, 0], [0, 1]] 0 (by decide +kernel))
  have HD2 := Lib.hid (stdK 1 [[1, 1], [0, 0], [2, 2]] 0 [] 13 (by decide +kernel))
  have HCK := Lib.hid (checkK 1 [[1, 0], [0, 1]] 14 0 (by decide +kernel))
  have HRE := Lib.hid (repsK 2 threeT [[], [2], [-2]] 0 (by decide +kernel))
  have HIM := Lib.hid (imgK 2 threeT [[0, 2, 1], [1, 2, 0]] 0 (by decide +kernel))
  have HTR := Lib.hid (traceK 2 threeT 0 [2, 1] 2 true (by decide +kernel))
  have HH1 := Lib.hid (holdsK 2 smallT [[1]] threeT true 0 (by decide +kernel))
  have HH2 := Lib.hid (holdsK 2 smallT [[2]] threeT false 0 (by decide +kernel))
  have HPL : Hid (∀ W v, Tab W v [[], [2], [-2]] → Calls Try.prog 52 #[v] W fun e w' => (∃ u, e = .returned u ∧ Tab w' u [[], [2], [-2]]) ∧ Below W.heap.size W w') := Lib.hid fun W v h => plain52_any W v _ h (by decide)
  have HSM : Hid (∀ (W : World) (a b : Value) (T : Tb), Tab W a T → Tab W b T → Calls Try.prog 34 #[a, b] W fun e w'' => e = .returned (.bool true) ∧ Below W.heap.size W w'') := Lib.hid fun W a b T h1 h2 => (same18_any W a b _ _ h1 h2).mono fun e w'' ⟨h, q, h'⟩ => ⟨h.trans (ret_bool (decide_eq_true rfl)), h' ▸ below_drewN (Below.refl _ _) q⟩
  have hq := eql49
  have HB0 := Lib.hid (Below.refl w.heap.size w)
  have ht := lit1 (w) [1, 1, 1] (fits_lit (by decide)) rfl (by decide) (e := 25)
  have hx := lit1_below (w) [1, 1, 1] 3 (e := 25)
  have HaT := Lib.hid ht
  have HaB := Lib.hid hx
  clear ht hx
  go_enter Try.func9, Try.ntmps9
  go_wp2_with fail
  refine (HE1.out _ _ _ HaT.out tab_nil).mono ?_
  rintro e v1 ⟨⟨u1, rfl, ht⟩, hb⟩
  have HB1 := Lib.hid (bl3 HaB.out hb)
  have hx := kept_tab.below ht ((Below.refl _ _).alloc (Nat.le_refl _) (.cells #[.int .i64 3, .int .i64 3, .int .i64 0] 49))
  obtain ⟨A1, c1, rfl⟩ := Tab.form ht
  have HX1 := Lib.hid (HB1.out.alloc HB1.out.size (.cells #[.int .i64 3, .int .i64 3, .int .i64 0] 49))
  have HT1 := Lib.hid hx
  clear ht hx
  have ht := lit3 (v1.alloc (.cells #[.int .i64 3, .int .i64 3, .int .i64 0] 49)) [1, 2] [2, 0] [0, 1] (fits_lit (by decide)) (fits_lit (by decide)) (fits_lit (by decide)) rfl rfl rfl (by decide) (e := 24)
  have hx := lit3_below (v1.alloc (.cells #[.int .i64 3, .int .i64 3, .int .i64 0] 49)) [1, 2] [2, 0] [0, 1] 2 2 2 (e := 24)
  simp only [World.size_alloc] at ht hx
  replace hx := below_sz hx
  have HbT := Lib.hid ht
  have HbB := Lib.hid hx
  clear ht hx
  have HT1' := Lib.hid (kept_tab.below HT1.out (HbB.out))
  clear hb HE1 HaT HaB HT1
  go_wp2_with fail
  refine (HSM.out _ _ _ _ HT1'.out HbT.out).mono ?_
  rintro e v2 ⟨rfl, hb⟩
  have HB2 := Lib.hid (bl3 (bl3 HX1.out HbB.out) hb)
  clear hb HT1' HbT HbB HX1
  go_wp2_with fail
  refine (HE2.out _ _ _ tab_nil tab_nil).mono ?_
  rintro e v3 ⟨⟨u3, rfl, ht⟩, hb⟩
  have HB3 := Lib.hid (bl3 HB2.out hb)
  obtain ⟨A3, c3, rfl⟩ := Tab.form ht
  have HX3 := Lib.hid (HB3.out.alloc HB3.out.size (.cells #[.int .i64 0, .int .i64 0, .int .i64 0] 49))
  have ht := lit1 (v3.alloc (.cells #[.int .i64 0, .int .i64 0, .int .i64 0] 49)) [1] (fits_lit (by decide)) rfl (by decide) (e := 25)
  have hx := lit1_below (v3.alloc (.cells #[.int .i64 0, .int .i64 0, .int .i64 0] 49)) [1] 1 (e := 25)
  simp only [World.size_alloc] at ht hx
  replace hx := below_sz hx
  have HcT := Lib.hid ht
  have HcB := Lib.hid hx
  clear ht hx
  clear hb HE2 ht
  go_wp2_with fail
  refine (HE3.out _ _ _ HcT.out tab_nil).mono ?_
  rintro e v4 ⟨⟨u4, rfl, ht⟩, hb⟩
  have HB4 := Lib.hid (bl3 (bl3 HX3.out HcB.out) hb)
  obtain ⟨A4, c4, rfl⟩ := Tab.form ht
  have HX4 := Lib.hid (HB4.out.alloc HB4.out.size (.cells #[.int .i64 1, .int .i64 1, .int .i64 0] 49))
  have HT4 := Lib.hid (kept_tab.below ht ((Below.refl _ _).alloc (Nat.le_refl _) (.cells #[.int .i64 1, .int .i64 1, .int .i64 0] 49)))
  have HN4 : Hid (∀ W, Below (v4.alloc (.cells #[.int .i64 1, .int .i64 1, .int .i64 0] 49)).heap.size (v4.alloc (.cells #[.int .i64 1, .int .i64 1, .int .i64 0] 49)) W → W.cell? ⟨v4.heap.size, 0, none⟩ = some (.int .i64 1) ∧ W.cell? ⟨v4.heap.size, 1, none⟩ = some (.int .i64 1) ∧ W.cell? ⟨v4.heap.size, 2, none⟩ = some (.int .i64 0)) := Lib.hid fun W h => cells49 ((h.block _ (by simp)).trans (heap_alloc_new v4 _))
  clear hb HE3 ht HcT HcB
  go_wp2_with fail
  refine (small55_any _).mono ?_
  rintro e v5 ⟨⟨A5, c5, rfl, ht⟩, hb⟩
  have HB5 := Lib.hid (bl3 HX4.out hb)
  have HC5 := Lib.hid hb
  have HP5 := Lib.hid ht
  clear ht
  have ht := lit1 (v5) [3] (fits_lit (by decide)) rfl (by decide) (e := 25)
  have hx := lit1_below (v5) [3] 1 (e := 25)
  have HdT := Lib.hid ht
  have HdB := Lib.hid hx
  clear ht hx
  have HP5' := Lib.hid (kept_tab.below HP5.out HdB.out)
  clear hb HX4
  go_wp2_with fail
  refine (HE4.out _ _ _ HP5'.out HdT.out).mono ?_
  rintro e v6 ⟨⟨u6, rfl, ht⟩, hb⟩
  have HB6 := Lib.hid (bl3 (bl3 HB5.out HdB.out) hb)
  have HC6 := Lib.hid (bl3 (bl3 HC5.out HdB.out) hb)
  obtain ⟨A6, c6, rfl⟩ := Tab.form ht
  have HX6 := Lib.hid (HB6.out.alloc HB6.out.size (.cells #[.int .i64 0, .int .i64 0, .int .i64 0] 49))
  have HY6 := Lib.hid (HC6.out.alloc HC6.out.size (.cells #[.int .i64 0, .int .i64 0, .int .i64 0] 49))
  clear hb HE4 ht HdT HdB HP5 HP5'
  go_wp2_with fail
  refine (small55_any _).mono ?_
  rintro e v7 ⟨⟨A7, c7, rfl, ht⟩, hb⟩
  have HB7 := Lib.hid (bl3 HX6.out hb)
  have HC7 := Lib.hid (bl3 HY6.out hb)
  have HP7 := Lib.hid ht
  clear hb ht HX6 HY6
  go_wp2_with fail
  refine (HE5.out _ _ _ HP7.out tab_nil).mono ?_
  rintro e v8 ⟨⟨u8, rfl, ht⟩, hb⟩
  have HB8 := Lib.hid (bl3 HB7.out hb)
  have HC8 := Lib.hid (bl3 HC7.out hb)
  obtain ⟨A8, c8, rfl⟩ := Tab.form ht
  have HX8 := Lib.hid (HB8.out.alloc HB8.out.size (.cells #[.int .i64 0, .int .i64 0, .int .i64 0] 49))
  have HY8 := Lib.hid (HC8.out.alloc HC8.out.size (.cells #[.int .i64 0, .int .i64 0, .int .i64 0] 49))
  clear ht
  have ht := lit1 (v8.alloc (.cells #[.int .i64 0, .int .i64 0, .int .i64 0] 49)) [0, 0] (fits_lit (by decide)) rfl (by decide) (e := 24)
  have hx := lit1_below (v8.alloc (.cells #[.int .i64 0, .int .i64 0, .int .i64 0] 49)) [0, 0] 2 (e := 24)
  simp only [World.size_alloc] at ht hx
  replace hx := below_sz hx
  have HfT := Lib.hid ht
  have HfB := Lib.hid hx
  clear ht hx
  have HT4' := Lib.hid (kept_tab.below HT4.out (bl3 HY8.out HfB.out))
  clear hb HE5 HP7
  go_wp2_with fail
  refine (HSM.out _ _ _ _ HT4'.out HfT.out).mono ?_
  rintro e v9 ⟨rfl, hb⟩
  have HB9 := Lib.hid (bl3 (bl3 HX8.out HfB.out) hb)
  obtain ⟨d1, d2, d3⟩ := HN4.out _ (bl3 (bl3 HY8.out HfB.out) hb)
  have ht := lit3 (v9) [2, 1] [0, 2] [1, 0] (fits_lit (by decide)) (fits_lit (by decide)) (fits_lit (by decide)) rfl rfl rfl (by decide) (e := 24)
  have hx := lit3_below (v9) [2, 1] [0, 2] [1, 0] 2 2 2 (e := 24)
  have HgT := Lib.hid ht
  have HgB := Lib.hid hx
  clear ht hx
  clear hb HT4 HT4' HfT HfB HX8 HY8 HN4
  go_wp2_with fail
  refine (HD1.out _ _ HgT.out).mono ?_
  rintro e v10 ⟨⟨u10, rfl, ht⟩, hb⟩
  have HB10 := Lib.hid (bl3 (bl3 HB9.out HgB.out) hb)
  obtain ⟨A10, c10, rfl⟩ := Tab.form ht
  have HT10 := Lib.hid ht
  clear ht d1 d2 d3
  have ht := lit3 (v10) [1, 1] [0, 0] [2, 2] (fits_lit (by decide)) (fits_lit (by decide)) (fits_lit (by decide)) rfl rfl rfl (by decide) (e := 24)
  have hx := lit3_below (v10) [1, 1] [0, 0] [2, 2] 2 2 2 (e := 24)
  have HhT := Lib.hid ht
  have HhB := Lib.hid hx
  clear ht hx
  have HT10' := Lib.hid (kept_tab.below HT10.out HhB.out)
  clear hb HD1 HgT HgB HT10
  go_wp2_with fail
  refine (HD2.out _ _ HhT.out).mono ?_
  rintro e v11 ⟨⟨u11, rfl, ht⟩, hb⟩
  have HB11 := Lib.hid (bl3 (bl3 HB10.out HhB.out) hb)
  obtain ⟨A11, c11, rfl⟩ := Tab.form ht
  have HT11 := Lib.hid (kept_tab.below HT10'.out hb)
  clear ht
  have ht := lit2 (v11) [1, 0] [0, 1] (fits_lit (by decide)) (fits_lit (by decide)) rfl rfl (by decide) (e := 24)
  have hx := lit2_below (v11) [1, 0] [0, 1] 2 2 (e := 24)
  have HiT := Lib.hid ht
  have HiB := Lib.hid hx
  clear ht hx
  have HT11' := Lib.hid (kept_tab.below HT11.out HiB.out)
  clear hb HD2 HhT HhB HT11 HT10'
  go_wp2_with fail
  refine (HCK.out _ _ HiT.out).mono ?_
  rintro e v12 ⟨rfl, hb⟩
  have HB12 := Lib.hid (bl3 (bl3 HB11.out HiB.out) hb)
  have HT12 := Lib.hid (kept_tab.below HT11'.out hb)
  have ht := lit3 (v12) [1, 2] [2, 0] [0, 1] (fits_lit (by decide)) (fits_lit (by decide)) (fits_lit (by decide)) rfl rfl rfl (by decide) (e := 24)
  have hx := lit3_below (v12) [1, 2] [2, 0] [0, 1] 2 2 2 (e := 24)
  have HjT := Lib.hid ht
  have HjB := Lib.hid hx
  clear ht hx
  have HT12' := Lib.hid (kept_tab.below HT12.out HjB.out)
  clear hb HCK HiT HiB HT11' HT12
  go_wp2_with fail
  refine (HSM.out _ _ _ _ HT12'.out HjT.out).mono ?_
  rintro e v13 ⟨rfl, hb⟩
  have HB13 := Lib.hid (bl3 (bl3 HB12.out HjB.out) hb)
  clear hb HT12' HjT HjB
  go_wp2_with fail
  refine (three56_any _).mono ?_
  rintro e v14 ⟨⟨u14, rfl, ht⟩, hb⟩
  have HB14 := Lib.hid (bl3 HB13.out hb)
  obtain ⟨A14, c14, rfl⟩ := Tab.form ht
  have HT14 := Lib.hid ht
  clear hb ht
  go_wp2_with fail
  refine (HRE.out _ _ HT14.out).mono ?_
  rintro e v15 ⟨⟨u15, rfl, ht⟩, hb⟩
  have HB15 := Lib.hid (bl3 HB14.out hb)
  obtain ⟨A15, c15, rfl⟩ := Tab.form ht
  have HR15 := Lib.hid ht
  clear hb ht HRE HT14
  go_wp2_with fail
  refine (three56_any _).mono ?_
  rintro e v16 ⟨⟨u16, rfl, ht⟩, hb⟩
  have HB16 := Lib.hid (bl3 HB15.out hb)
  have HR16 := Lib.hid (kept_tab.below HR15.out hb)
  obtain ⟨A16, c16, rfl⟩ := Tab.form ht
  have HT16 := Lib.hid ht
  clear hb ht HR15
  go_wp2_with fail
  refine (HIM.out _ _ HT16.out).mono ?_
  rintro e v17 ⟨⟨u17, rfl, ht⟩, hb⟩
  have HB17 := Lib.hid (bl3 HB16.out hb)
  have HR17 := Lib.hid (kept_tab.below HR16.out hb)
  obtain ⟨A17, c17, rfl⟩ := Tab.form ht
  have HI17 := Lib.hid ht
  clear hb ht HR16 HIM HT16
  go_wp2_with fail
  refine (three56_any _).mono ?_
  rintro e v18 ⟨⟨u18, rfl, ht⟩, hb⟩
  have HB18 := Lib.hid (bl3 HB17.out hb)
  obtain ⟨A18, c18, rfl⟩ := Tab.form ht
  have hal : Below v18.heap.size v18 (v18.alloc (.cells (ints [2, 1]).toArray 3)) := (Below.refl _ _).alloc (Nat.le_refl _) _
  have HR18 := Lib.hid (kept_tab.below (kept_tab.below HR17.out hb) hal)
  have HI18 := Lib.hid (kept_tab.below (kept_tab.below HI17.out hb) hal)
  have HT18 := Lib.hid (kept_tab.below ht hal)
  have HW18 := Lib.hid (ints_lit v18 [2, 1] (fits_lit (by decide)) 2 rfl (by omega))
  have HZ18 := Lib.hid (bl3 HB18.out hal)
  clear hb ht hal HR17 HI17
  go_wp2_with fail
  refine (HTR.out _ _ _ HT18.out HW18.out).mono ?_
  rintro e v19 ⟨rfl, hb⟩
  have HB19 := Lib.hid (bl3 HZ18.out hb)
  have HR19 := Lib.hid (kept_tab.below HR18.out hb)
  have HI19 := Lib.hid (kept_tab.below HI18.out hb)
  clear hb HTR HT18 HW18 HZ18 HR18 HI18
  go_wp2_with fail
  refine (HPL.out _ _ HR19.out).mono ?_
  rintro e v20 ⟨⟨u20, rfl, ht⟩, hb⟩
  have HB20 := Lib.hid (bl3 HB19.out hb)
  have HI20 := Lib.hid (kept_tab.below HI19.out hb)
  obtain ⟨A20, c20, rfl⟩ := Tab.form ht
  have HR20 := Lib.hid ht
  clear ht
  have ht := lit3 (v20) [] [2] [-2] (fits_lit (by decide)) (fits_lit (by decide)) (fits_lit (by decide)) rfl rfl rfl (by decide) (e := 24)
  have hx := lit3_below (v20) [] [2] [-2] 0 1 1 (e := 24)
  have HkT := Lib.hid ht
  have HkB := Lib.hid hx
  clear ht hx
  have HR20' := Lib.hid (kept_tab.below HR20.out HkB.out)
  have HI20' := Lib.hid (kept_tab.below HI20.out HkB.out)
  clear hb HPL HR19 HR20 HI19 HI20
  go_wp2_with fail
  refine (HSM.out _ _ _ _ HR20'.out HkT.out).mono ?_
  rintro e v21 ⟨rfl, hb⟩
  have HB21 := Lib.hid (bl3 (bl3 HB20.out HkB.out) hb)
  have HI21 := Lib.hid (kept_tab.below HI20'.out hb)
  have ht := lit2 (v21) [0, 2, 1] [1, 2, 0] (fits_lit (by decide)) (fits_lit (by decide)) rfl rfl (by decide) (e := 24)
  have hx := lit2_below (v21) [0, 2, 1] [1, 2, 0] 3 3 (e := 24)
  have HlT := Lib.hid ht
  have HlB := Lib.hid hx
  clear ht hx
  have HI21' := Lib.hid (kept_tab.below HI21.out HlB.out)
  clear hb HkT HkB HR20' HI20' HI21
  go_wp2_with fail
  refine (HSM.out _ _ _ _ HI21'.out HlT.out).mono ?_
  rintro e v22 ⟨rfl, hb⟩
  have HB22 := Lib.hid (bl3 (bl3 HB21.out HlB.out) hb)
  clear hb HlT HlB HI21'
  go_wp2_with fail
  refine (small55_any _).mono ?_
  rintro e v23 ⟨⟨A23, c23, rfl, ht⟩, hb⟩
  have HB23 := Lib.hid (bl3 HB22.out hb)
  have HP23 := Lib.hid ht
  clear ht
  have ht := lit1 (v23) [1] (fits_lit (by decide)) rfl (by decide) (e := 25)
  have hx := lit1_below (v23) [1] 1 (e := 25)
  have HmT := Lib.hid ht
  have HmB := Lib.hid hx
  clear ht hx
  have HP23' := Lib.hid (kept_tab.below HP23.out HmB.out)
  clear hb HP23 HB22
  go_wp2_with fail
  refine (three56_any _).mono ?_
  rintro e v24 ⟨⟨u24, rfl, ht⟩, hb⟩
  have HB24 := Lib.hid (bl3 (bl3 HB23.out HmB.out) hb)
  have HP24 := Lib.hid (kept_tab.below HP23'.out hb)
  have HW24 := Lib.hid (kept_tab.below HmT.out hb)
  obtain ⟨A24, c24, rfl⟩ := Tab.form ht
  have HT24 := Lib.hid ht
  clear hb ht HmT HmB HP23'
  go_wp2_with fail
  refine (HH1.out _ _ _ _ HP24.out HW24.out HT24.out).mono ?_
  rintro e v25 ⟨rfl, hb⟩
  have HB25 := Lib.hid (bl3 HB24.out hb)
  clear hb HH1 HP24 HW24 HT24
  go_wp2_with fail
  refine (small55_any _).mono ?_
  rintro e v26 ⟨⟨A26, c26, rfl, ht⟩, hb⟩
  have HB26 := Lib.hid (bl3 HB25.out hb)
  have HP26 := Lib.hid ht
  clear ht
  have ht := lit1 (v26) [2] (fits_lit (by decide)) rfl (by decide) (e := 25)
  have hx := lit1_below (v26) [2] 1 (e := 25)
  have HnT := Lib.hid ht
  have HnB := Lib.hid hx
  clear ht hx
  have HP26' := Lib.hid (kept_tab.below HP26.out HnB.out)
  clear hb HP26 HB25
  go_wp2_with fail
  refine (three56_any _).mono ?_
  rintro e v27 ⟨⟨u27, rfl, ht⟩, hb⟩
  have HB27 := Lib.hid (bl3 (bl3 HB26.out HnB.out) hb)
  have HP27 := Lib.hid (kept_tab.below HP26'.out hb)
  have HW27 := Lib.hid (kept_tab.below HnT.out hb)
  obtain ⟨A27, c27, rfl⟩ := Tab.form ht
  have HT27 := Lib.hid ht
  clear hb ht HnT HnB HP26'
  go_wp2_with fail
  refine (HH2.out _ _ _ _ HP27.out HW27.out HT27.out).mono ?_
  rintro e v28 ⟨rfl, hb⟩
  have HB28 := Lib.hid (bl3 HB27.out hb)
  clear hb HH2 HP27 HW27 HT27
  go_wp2_with fail
  refine (awake31_any _).mono ?_
  rintro e v29 ⟨rfl, hb⟩
  have HB29 := Lib.hid (bl3 HB28.out hb)
  clear hb
  go_wp2_with fail
  go_ret
  exact ⟨rfl, HB29.out⟩
end Go.Proofs
namespace Go.Proofs
open Go.RowKit Go.Shelf Go.Proofs.Ct Go.Maps
/-- a word in blocks from base on -/
def IntsB (base : Nat) (w : World) (u : Value) (x : List Int) : Prop := ∀ w' : World, (∀ k, base ≤ k → k < w.heap.size → w'.heap[k]? = w.heap[k]?) → IntsAt w' u x
section
variable {base : Nat} {w w' : World} {u : Value} {x : List Int}
theorem IntsB.at_ (h : IntsB base w u x) : IntsAt w u x := h w fun _ _ _ => rfl
theorem IntsB.below (h : IntsB base w u x) (hb : Below w.heap.size w w') : IntsB base w' u x := fun w'' h'' => h w'' fun k h1 h2 => (h'' k h1 (Nat.lt_of_lt_of_le h2 hb.size)).trans (hb.block k h2)
theorem IntsB.own {b2 : Nat} (h : OwnI b2 w u x) (hf : Fits x) (hb : base ≤ b2) : IntsB base w u x := fun w' hw => OwnI.ints (owns_keep h fun r hr => by
  obtain ⟨h1, C, hC⟩ := owns_block h r hr
  exact hw r (by omega) (Array.getElem?_eq_some_iff.1 hC).1) hf
theorem IntsB.lit (w : World) (x : List Int) (hf : Fits x) {n : Nat} (hn : x.length = n) (hm : n ≤ 1000) (hb : base ≤ w.heap.size) : IntsB base (w.alloc (.cells (ints x).toArray 3)) (.slice (some ⟨w.heap.size, 0, none⟩) n n) x := fun w' hw =>
  ints_blk ((hw w.heap.size hb (by simp)).trans (heap_alloc_new w _)) hf hn hm
theorem TabB.lit (w : World) (us : List Value) (xs : List W) {e : TypeId} {n : Nat} (hn : us.length = n) (hl : us.length = xs.length) (hm : us.length ≤ 1000) (hb : base ≤ w.heap.size) (h : ∀ i, i < xs.length → IntsB base w (us.getD i undef) (xs.getD i [])) :
    TabB base (w.alloc (.cells us.toArray e)) (.slice (some ⟨w.heap.size, 0, none⟩) n n) xs := fun w' hw =>
  tab_blk ((hw w.heap.size hb (by simp)).trans (heap_alloc_new w _)) hn hl hm fun i hi => (h i hi).below ((Below.refl _ _).alloc (Nat.le_refl _) _) w' hw
end
/-- the state of Known: the box of the result is still empty -/
structure KS (w W : World) : Prop where
  below : Below w.heap.size w W
  box : W.heap[w.heap.size]? = some (.cells zero40 40 (0, 0))
theorem KS.lt {w W : World} (h : KS w W) : w.heap.size + 1 ≤ W.heap.size := (Array.getElem?_eq_some_iff.1 h.box).1
theorem KS.below' {w W W' : World} (h : KS w W) (hb : Below W.heap.size W W') : KS w W' := ⟨h.below.trans (hb.mono h.below.size), (hb.block _ h.lt).trans h.box⟩
end Go.Proofs
namespace Go.Proofs.Ct
section
variable {g lim lim' : Nat} {s : St}
theorem fillF_mono : ∀ (fuel fuel' : Nat) {s : St}, Good g lim s → lim < fuel + s.t.length → ∀ {r : Nat}, r < s.t.length → s.rp r = r → ∀ {w : W}, LOk g w → ∀ s', fillF (2 * g) lim fuel s r w = some s' → s'.t.length ≤ lim' → lim' < fuel' + s.t.length → fillF (2 * g) lim' fuel' s r w = some s'
  | 0, _, _, _, _, _, _, _, _, _, s', e, _, _ => by cases e
  | fuel + 1, fuel', s, h, hf, r, hr, hl, w, hw, s', e, hn', hf' => by
    have hE := (fillF_good (fuel + 1) h hf hr hl hw s' e).2.n
    obtain ⟨f', rfl⟩ : ∃ f', fuel' = f' + 1 := ⟨fuel' - 1, by omega⟩
    obtain ⟨a, b⟩ := scan_rest h.rest hr hl hw
    unfold fillF at e ⊢
    cases hsc : scanS (2 * g) s r w with
    | mk s2 o =>
      rw [hsc] at e
      cases o with
      | none => exact e
      | some fc =>
        obtain ⟨f, c⟩ := fc
        simp only at e ⊢
        obtain ⟨-, h2, h3, h4, h5⟩ := b _ _ _ hsc
        split at e
        · cases e
        · rename_i hne
          obtain ⟨k1, k2⟩ := h.defn h2 h3 h4 h5 (by have := h.n2; omega)
          have hn := length_def (s := s) (2 * g) f c
          have hrd : (defS (2 * g) s f c).rp r = r := by rw [rp_def_old h.rest.inv _ _ _ hr]; exact hl
          have hE2 := (fillF_good fuel k1 (by omega) (r := r) (by omega) hrd hw s' e).2.n
          rw [if_neg (by omega)]
          exact fillF_mono fuel f' k1 (by omega) (by omega) hrd hw s' e hn' (by omega)
theorem fill_mono (h : Good g lim s) {r : Nat} (hr : r < s.t.length) (hl : s.rp r = r) {w : W} (hw : LOk g w) {s' : St} (e : fillS (2 * g) lim s r w = some s') (hn : s'.t.length ≤ lim') : fillS (2 * g) lim' s r w = some s' := by
  have h1 := h.n2
  have h2 := (fill_good h hr hl hw e).2.n
  exact fillF_mono _ _ h (by omega) hr hl hw s' e hn (by omega)
theorem optTo_mono {f f' : Nat → St → Option St} {p : Nat → St → Prop} {q : St → Prop} {s : St} (h0 : p 0 s) : ∀ (n : Nat) (_ : ∀ k x y, k < n → p k x → f k x = some y → p (k + 1) y ∧ x.t.length ≤ y.t.length ∧ (y.t.length ≤ lim' → f' k x = some y)) (y : St), optTo f n s = some y → y.t.length ≤ lim' → optTo f' n s = some y
  | 0, _, y, h, _ => h
  | n + 1, hf, y, h, hy => by
    rw [optTo_succ] at h ⊢
    cases hx : optTo f n s with
    | none => rw [hx] at h; cases h
    | some x =>
      rw [hx] at h
      have hp := optTo_inv h0 n (fun k x y hk a b => (hf k x y (by omega) a b).1) x hx
      obtain ⟨-, h2, h3⟩ := hf n x y (Nat.lt_succ_self n) hp h
      rw [optTo_mono (q := q) h0 n (fun k x y hk => hf k x y (by omega)) x hx (by omega)]
      exact h3 hy
theorem rel_mono {rels : List W} (hs : ∀ j, j < rels.length → LOk g (rels.getD j [])) {r : Nat} (h : Good g lim s) (hr : r < s.t.length) {s' : St} {k : Nat} (e : optTo (relS (2 * g) lim rels r) k s = some s') (hn : s'.t.length ≤ lim') : optTo (relS (2 * g) lim' rels r) k s = some s' :=
  optTo_mono (q := fun _ => True) (p := fun _ x => Good g lim x ∧ Ext g s x) ⟨h, Ext.refl h.rest⟩ k (fun i x y _ ⟨hx, hx2⟩ hy => by
    have hrx : r < x.t.length := Nat.lt_of_lt_of_le hr hx2.n
    unfold relS at hy
    by_cases hl : x.rp r = r
    · rw [if_pos hl] at hy
      obtain ⟨a, b⟩ := fill_good hx hrx hl (getD_all hs LOk.nil i) hy
      refine ⟨⟨a, hx2.trans h.rest hx.rest b⟩, b.n, fun hy' => ?_⟩
      unfold relS
      rw [if_pos hl]
      exact fill_mono hx hrx hl (getD_all hs LOk.nil i) hy hy'
    · rw [if_neg hl] at hy
      cases hy
      exact ⟨⟨hx, hx2⟩, Nat.le_refl _, fun _ => by unfold relS; rw [if_neg hl]⟩) s' e hn
theorem col_mono {r : Nat} (h : Good g lim s) (hr : r < s.t.length) {k : Nat} (hk : k ≤ 2 * g) {s' : St} (e : optTo (colS (2 * g) lim r) k s = some s') (hn : s'.t.length ≤ lim') : optTo (colS (2 * g) lim' r) k s = some s' :=
  optTo_mono (q := fun _ => True) (p := fun _ x => Good g lim x ∧ Ext g s x) ⟨h, Ext.refl h.rest⟩ k (fun c x y hc ⟨hx, hx2⟩ hy => by
    have hrx : r < x.t.length := Nat.lt_of_lt_of_le hr hx2.n
    unfold colS at hy
    by_cases hl : x.rp r = r ∧ x.t.at r c < 0
    · rw [if_pos hl] at hy
      by_cases hne : x.t.length = lim
      · rw [if_pos hne] at hy; cases hy
      · rw [if_neg hne] at hy
        cases hy
        obtain ⟨a, b⟩ := hx.defn hrx (by omega) hl.1 hl.2 (by have := hx.n2; omega)
        have hn := length_def (s := x) (2 * g) r c
        refine ⟨⟨a, hx2.trans h.rest hx.rest b⟩, b.n, fun hy' => ?_⟩
        unfold colS
        rw [if_pos hl, if_neg (by omega)]
    · rw [if_neg hl] at hy
      cases hy
      exact ⟨⟨hx, hx2⟩, Nat.le_refl _, fun _ => by unfold colS; rw [if_neg hl]⟩) s' e hn
theorem row_mono {rels : List W} (hs : ∀ j, j < rels.length → LOk g (rels.getD j [])) {r : Nat} (h : Good g lim s) (hr : r < s.t.length) {s' : St} (e : rowS (2 * g) lim rels r s = some s') (hn : s'.t.length ≤ lim') : rowS (2 * g) lim' rels r s = some s' := by
  unfold rowS at e ⊢
  cases hx : optTo (relS (2 * g) lim rels r) rels.length s with
  | none => rw [hx] at e; cases e
  | some x =>
    rw [hx] at e
    obtain ⟨a, b⟩ := rel_good hs h hr hx
    have hrx : r < x.t.length := Nat.lt_of_lt_of_le hr b.n
    have hxl := (col_good a hrx (Nat.le_refl _) e).2.1.n
    rw [rel_mono hs h hr hx (by omega)]
    exact col_mono a hrx (Nat.le_refl _) e hn
theorem sub_mono {sub : List W} (hg : 1 ≤ lim) (hs : ∀ j, j < sub.length → LOk g (sub.getD j [])) {s' : St} {k : Nat} (e : optTo (subS (2 * g) lim sub) k (startS (2 * g)) = some s') (hn : s'.t.length ≤ lim') : optTo (subS (2 * g) lim' sub) k (startS (2 * g)) = some s' :=
  optTo_mono (q := fun _ => True) (p := fun _ s => Good g lim s) (start_good hg) k (fun i x y _ hx hy => by
    have hl := rp_zero hx.rest hx.n1
    obtain ⟨a, b⟩ := fill_good hx hx.n1 hl (getD_all hs LOk.nil i) hy
    exact ⟨a, b.n, fun hy' => fill_mono hx hx.n1 hl (getD_all hs LOk.nil i) hy hy'⟩) s' e hn
/-- steps behind the last row do nothing -/
theorem rows_more {rels : List W} {m lim : Nat} {s x : St} {k : Nat} (h : optTo (rowsS m lim rels) k s = some x) (hk : x.t.length ≤ k) : ∀ d, optTo (rowsS m lim rels) (k + d) s = some x
  | 0 => h
  | d + 1 => by
    show (optTo (rowsS m lim rels) (k + d) s).bind (rowsS m lim rels (k + d)) = some x
    rw [rows_more h hk d]
    show rowsS m lim rels (k + d) x = some x
    unfold rowsS
    rw [if_neg (by omega)]
theorem rows_step {rels : List W} (hr : ∀ j, j < rels.length → LOk g (rels.getD j [])) {r : Nat} {x y : St} (hx : Good g lim x) (hy : rowsS (2 * g) lim rels r x = some y) (hc : Comp g x r) : (Good g lim y ∧ Comp g y (r + 1)) ∧ x.t.length ≤ y.t.length ∧ (y.t.length ≤ lim' → rowsS (2 * g) lim' rels r x = some y) := by
  unfold rowsS at hy
  by_cases hlt : r < x.t.length
  · rw [if_pos hlt] at hy
    obtain ⟨a, b, c⟩ := row_good hr hx hlt hc hy
    refine ⟨⟨a, c⟩, b.n, fun hy' => ?_⟩
    unfold rowsS
    rw [if_pos hlt]
    exact row_mono hr hx hlt hy hy'
  · rw [if_neg hlt] at hy
    cases hy
    exact ⟨⟨hx, fun z _ hzn c hcc => hc z (by omega) hzn c hcc⟩, Nat.le_refl _, fun _ => by unfold rowsS; rw [if_neg hlt]⟩
theorem rows_cut {rels : List W} (hr : ∀ j, j < rels.length → LOk g (rels.getD j [])) {x y : St} (hx : Good g lim x) {n : Nat} (e : optTo (rowsS (2 * g) lim rels) n x = some y) : ∀ k, k ≤ n → ∃ z, optTo (rowsS (2 * g) lim rels) k x = some z ∧ z.t.length ≤ y.t.length := by
  induction n generalizing y with
  | zero => intro k hk; obtain rfl : k = 0 := by omega
            exact ⟨y, e, Nat.le_refl _⟩
  | succ n ih =>
    intro k hk
    by_cases h : k = n + 1
    · subst h; exact ⟨y, e, Nat.le_refl _⟩
    · rw [optTo_succ] at e
      cases hz : optTo (rowsS (2 * g) lim rels) n x with
      | none => rw [hz] at e; cases e
      | some z =>
        rw [hz] at e
        obtain ⟨u, hu, hu2⟩ := ih hz k (by omega)
        obtain ⟨a, b⟩ := optTo_inv (p := fun k x => Good g lim x ∧ Comp g x k) ⟨hx, fun x hx => absurd hx (by omega)⟩ n (fun r x y _ ⟨hx1, hx2⟩ hy => (rows_step (lim' := lim) hr hx1 hy hx2).1) z hz
        have := (rows_step (lim' := lim) hr a e b).2.1
        exact ⟨u, hu, by omega⟩
/-- a greater limit, or one that is just enough, changes nothing -/
theorem run_mono {rels sub : List W} (hg : 1 ≤ lim) (hr : ∀ j, j < rels.length → LOk g (rels.getD j [])) (hs : ∀ j, j < sub.length → LOk g (sub.getD j [])) {s' : St} (e : runS (2 * g) lim rels sub = some s') (hn : s'.t.length ≤ lim') : runS (2 * g) lim' rels sub = some s' := by
  have hgood := (run_good hg hr hs e).1
  unfold runS at e ⊢
  cases hx : optTo (subS (2 * g) lim sub) sub.length (startS (2 * g)) with
  | none => rw [hx] at e; cases e
  | some x =>
    rw [hx] at e
    have hG := sub_good hg hs hx
    have e' : optTo (rowsS (2 * g) lim rels) lim x = some s' := e
    obtain ⟨z, hz, hzl⟩ := rows_cut hr hG e' s'.t.length hgood.n2
    have hm := rows_more hz hzl (lim - s'.t.length)
    rw [show s'.t.length + (lim - s'.t.length) = lim by have := hgood.n2; omega, e'] at hm
    obtain rfl : s' = z := Option.some.inj hm
    obtain ⟨y0, hy0, hxl⟩ := rows_cut hr hG e' 0 (Nat.zero_le _)
    obtain rfl : x = y0 := Option.some.inj hy0
    rw [sub_mono hg hs hx (by omega)]
    have h2 : optTo (rowsS (2 * g) lim' rels) s'.t.length x = some s' := optTo_mono (q := fun _ => True) (p := fun k x => Good g lim x ∧ Comp g x k) ⟨hG, fun x hx => absurd hx (by omega)⟩ _ (fun r x y _ ⟨hx1, hx2⟩ hy => rows_step hr hx1 hy hx2) s' hz hn
    have h3 := rows_more h2 (Nat.le_refl _) (lim' - s'.t.length)
    rw [show s'.t.length + (lim' - s'.t.length) = lim' by omega] at h3
    exact h3
/-- one coset less is not enough -/
theorem run_less {rels sub : List W} (hg : 1 ≤ lim) (hr : ∀ j, j < rels.length → LOk g (rels.getD j [])) (hs : ∀ j, j < sub.length → LOk g (sub.getD j [])) {s' : St} (e : runS (2 * g) lim rels sub = some s') (h1 : 1 ≤ lim') (hn : lim' < s'.t.length) : runS (2 * g) lim' rels sub = none := by
  cases hx : runS (2 * g) lim' rels sub with
  | none => rfl
  | some x =>
    have hgx := (run_good h1 hr hs hx).1.n2
    have hgs := (run_good hg hr hs e).1.n2
    have := run_mono (lim := lim') (lim' := lim) h1 hr hs hx (by omega)
    rw [e] at this
    cases this
    omega
end
end Go.Proofs.Ct
namespace Go.Proofs.Ct
/-- a word leads from x to y -/
def Way (t : Tb) : Nat → W → Nat → Prop
  | x, [], y => x = y
  | x, l :: w, y => ∃ z, Edge t x (col l) z ∧ Way t z w y
section
variable {t : Tb} {g : Nat} {s s0 s1 : St}
theorem way_app {u v : W} : ∀ {x y : Nat}, Way t x (u ++ v) y ↔ ∃ z, Way t x u z ∧ Way t z v y := by
  induction u with
  | nil => intro x y; exact ⟨fun h => ⟨x, rfl, h⟩, fun ⟨z, h1, h2⟩ => by have e : x = z := h1; subst e; exact h2⟩
  | cons l u ih =>
    intro x y
    constructor
    · rintro ⟨z, h1, h2⟩
      obtain ⟨z', h3, h4⟩ := ih.1 h2
      exact ⟨z', ⟨z, h1, h3⟩, h4⟩
    · rintro ⟨z', ⟨z, h1, h3⟩, h4⟩
      exact ⟨z, h1, ih.2 ⟨z', h3, h4⟩⟩
theorem way_one {x y : Nat} {l : Int} : Way t x [l] y ↔ Edge t x (col l) y := ⟨fun ⟨z, h1, h2⟩ => by have e : z = y := h2; subst e; exact h1, fun h => ⟨y, h, rfl⟩⟩
theorem take_snocW {w : W} {k : Nat} (h : k < w.length) : w.take (k + 1) = w.take k ++ [w.getD k 0] := by
  rw [List.take_add_one, List.getD_eq_getElem?_getD, List.getElem?_eq_getElem h]; rfl
theorem way_of_lead {r : Nat} {w : W} : ∀ (k : Nat), k ≤ w.length → 0 ≤ leadTo t r w k → Way t r (w.take k) (leadTo t r w k).toNat
  | 0, _, _ => by
    rw [List.take_zero]
    show r = ((r : Int)).toNat
    omega
  | k + 1, hk, h => by
    rw [leadTo_succ] at h ⊢
    by_cases h1 : leadTo t r w k < 0
    · rw [if_pos h1] at h; omega
    · rw [if_neg h1] at h ⊢
      have ih := way_of_lead (r := r) (w := w) k (by omega) (by omega)
      rw [take_snocW (by omega)]
      refine way_app.2 ⟨_, ih, way_one.2 ?_⟩
      unfold Edge
      omega
theorem lead_of_way {r : Nat} {w : W} : ∀ (k : Nat), k ≤ w.length → ∀ {y : Nat}, Way t r (w.take k) y → leadTo t r w k = (y : Int)
  | 0, _, y, h => by
    rw [List.take_zero] at h
    have e : r = y := h
    subst e; rfl
  | k + 1, hk, y, h => by
    rw [take_snocW (by omega)] at h
    obtain ⟨z, h1, h2⟩ := way_app.1 h
    have ih := lead_of_way k (by omega) h1
    rw [leadTo_succ, ih, if_neg (by omega), Int.toNat_natCast]
    exact way_one.1 h2
theorem leads_iff {r y : Nat} {w : W} : leads t r w = (y : Int) ↔ Way t r w y := by
  constructor
  · intro h
    have := way_of_lead (t := t) (r := r) w.length (Nat.le_refl _) (by show 0 ≤ leads t r w; omega)
    rw [List.take_length] at this
    have e : (leadTo t r w w.length).toNat = y := by show (leads t r w).toNat = y; omega
    rwa [e] at this
  · intro h
    exact lead_of_way w.length (Nat.le_refl _) (by rw [List.take_length]; exact h)
theorem LOk.cons {l : Int} {w : W} (h : LOk g (l :: w)) : (-(g : Int) ≤ l ∧ l ≤ g ∧ l ≠ 0) ∧ LOk g w := ⟨h l (List.mem_cons_self ..), fun x hx => h x (List.mem_cons_of_mem _ hx)⟩
theorem col_ltL {l : Int} (h : -(g : Int) ≤ l ∧ l ≤ g ∧ l ≠ 0) : col l < 2 * g := by unfold col; split <;> omega
theorem inv_cons (l : Int) (w : W) : inv (l :: w) = inv w ++ [-l] := by simp [inv]
theorem inv_inv (w : W) : inv (inv w) = w := by simp [inv, Function.comp_def]
theorem inv_app (u v : W) : inv (u ++ v) = inv v ++ inv u := by simp [inv]
theorem way_inv (h : Inv g s) : ∀ {w : W} {x y : Nat}, LOk g w → x < s.t.length → Way s.t x w y → Way s.t y (inv w) x := by
  intro w
  induction w with
  | nil => intro x y _ _ h; exact Eq.symm h
  | cons l w ih =>
    rintro x y hw hx ⟨z, h1, h2⟩
    rw [inv_cons]
    refine way_app.2 ⟨z, ih hw.cons.2 (h1.lt h hx (col_ltL hw.cons.1)) h2, way_one.2 ?_⟩
    rw [col_inv hw.cons.1.2.2]
    exact h1.back h hx (col_ltL hw.cons.1)
theorem way_ext (h0 : Inv g s0) (h : Ext g s0 s1) : ∀ {w : W} {x y : Nat}, LOk g w → x < s0.t.length → Way s0.t x w y → Way s1.t (s1.rp x) w (s1.rp y) := by
  intro w
  induction w with
  | nil => intro x y _ _ h; have e : x = y := h; subst e; exact rfl
  | cons l w ih =>
    rintro x y hw hx ⟨z, h1, h2⟩
    have hz := h1.lt h0 hx (col_ltL hw.cons.1)
    exact ⟨_, h.edge _ _ _ hx (col_ltL hw.cons.1) h1, ih hw.cons.2 hz h2⟩
/-- a word is closed at a coset -/
def Clo (s : St) (r : Nat) (w : W) : Prop := Way s.t (s.rp r) w (s.rp r)
theorem Clo.ext (h0 : Rest g s0) (h : Ext g s0 s1) {r : Nat} (hr : r < s0.t.length) {w : W} (hw : LOk g w) (hc : Clo s0 r w) : Clo s1 r w := by
  have := way_ext h0.inv h hw (h0.inv.rlt hr) hc
  rwa [h.coarse r hr] at this
theorem drop_inv {w : W} {k : Nat} (hk : k ≤ w.length) : inv ((inv w).take k) = w.drop (w.length - k) := by
  have h1 : inv w = inv (w.drop (w.length - k)) ++ inv (w.take (w.length - k)) := by rw [← inv_app, List.take_append_drop]
  have h2 : (inv (w.drop (w.length - k))).length = k := by rw [length_inv, List.length_drop]; omega
  rw [h1, List.take_append_of_le_length (by omega), List.take_of_length_le (by omega), inv_inv]
theorem scan_closed (h : Rest g s) {r : Nat} (hr : r < s.t.length) (hlr : s.rp r = r) {w : W} (hw : LOk g w) {s' : St} (e : scanS (2 * g) s r w = (s', none)) : Clo s' r w := by
  obtain ⟨f1, f2, f3⟩ := fwd_spec s.t r w
  have fp := fwd_pos s.t r w
  obtain ⟨b1, b2, b3⟩ := bwd_spec s.t r w (fwd s.t r w)
  have bp := bwd_pos s.t r w (fwd s.t r w)
  obtain ⟨fl, flv⟩ := lead_live h hw hr hlr _ f1 fp
  obtain ⟨bl, blv⟩ := lead_live h hw.inv hr hlr _ (by rw [length_inv]; exact b1) bp
  have hF := way_of_lead _ f1 fp
  have hB := way_inv h.inv (fun x hx => hw.inv x (List.mem_of_mem_take hx)) hr (way_of_lead _ (by rw [length_inv]; exact b1) bp)
  rw [drop_inv b1] at hB
  have hnext : fwd s.t r w < w.length → s.t.at (leadTo s.t r w (fwd s.t r w)).toNat (col (w.getD (fwd s.t r w) 0)) < 0 := fun hlt => by
    rcases f2 with f2 | f2
    · omega
    · rw [leadTo_succ, if_neg (by omega)] at f2
      exact f2
  have hback : ¬ w.length ≤ fwd s.t r w + bwd s.t r w (fwd s.t r w) → s.t.at (leadTo s.t r (Ct.inv w) (bwd s.t r w (fwd s.t r w))).toNat (col ((Ct.inv w).getD (bwd s.t r w (fwd s.t r w)) 0)) < 0 := fun hlt => by
    rcases b2 with b2 | b2
    · omega
    · rw [leadTo_succ, if_neg (by omega)] at b2
      exact b2
  have hik : fwd s.t r w + bwd s.t r w (fwd s.t r w) ≤ w.length := by
    rcases Nat.eq_zero_or_pos (bwd s.t r w (fwd s.t r w)) with h0 | h0
    · omega
    · have := (b3 (bwd s.t r w (fwd s.t r w) - 1) (by omega)).1
      omega
  have hwt : ∀ k, LOk g (w.take k) := fun k x hx => hw x (List.mem_of_mem_take hx)
  have hwd : ∀ k, LOk g (w.drop k) := fun k x hx => hw x (List.mem_of_mem_drop hx)
  unfold scanS at e
  generalize hi : fwd s.t r w = i at *
  generalize hk : bwd s.t r w i = k at *
  generalize leadTo s.t r w i = f at *
  generalize leadTo s.t r (Ct.inv w) k = b at *
  unfold Clo
  by_cases h1 : i = w.length
  · rw [if_pos h1] at e
    rw [h1, List.take_length] at hF
    by_cases h2 : f = (r : Int)
    · rw [if_pos h2] at e
      cases e
      rw [hlr]
      rw [h2, Int.toNat_natCast] at hF
      exact hF
    · rw [if_neg h2] at e
      cases e
      obtain ⟨c1, c2, c3, c4⟩ := coin_rest h fl hr
      have := way_ext h.inv (Ext.of_cov c1 c2) hw hr hF
      rwa [c3] at this
  · rw [if_neg h1] at e
    by_cases h2 : w.length ≤ i + k
    · rw [if_pos h2] at e
      cases e
      obtain ⟨c1, c2, c3, c4⟩ := coin_rest h fl bl
      have hE := Ext.of_cov c1 c2
      rw [show w.length - k = i by omega] at hB
      have w1 := way_ext h.inv hE (hwt i) hr hF
      have w2 := way_ext h.inv hE (hwd i) bl hB
      rw [c3] at w1
      have := way_app.2 ⟨_, w1, w2⟩
      rwa [List.take_append_drop] at this
    · rw [if_neg h2] at e
      have hil : i < w.length := by omega
      by_cases h3 : w.length = i + k + 1
      · rw [if_pos h3] at e
        cases e
        have hb := hback h2
        rw [inv_getD (by omega), show w.length - 1 - k = i by omega, col_inv (hw.getD hil).2.2] at hb
        obtain ⟨c1, c2, c3⟩ := h.join fl bl (hw.col hil) flv blv (hnext hil) hb
        rw [show w.length - k = i + 1 by omega] at hB
        have w1 := way_ext h.inv c2 (hwt i) hr hF
        have w2 := way_ext h.inv c2 (hwd (i + 1)) bl hB
        rw [rp_joinS, rp_joinS, hlr, flv] at w1
        rw [rp_joinS, rp_joinS, hlr, blv] at w2
        rw [rp_joinS, hlr]
        have := way_app.2 ⟨_, way_app.2 ⟨_, w1, way_one.2 c3⟩, w2⟩
        rwa [← take_snocW hil, List.take_append_drop] at this
      · rw [if_neg h3] at e
        cases e
end
end Go.Proofs.Ct
namespace Go.Proofs.Ct
section
variable {g lim : Nat} {s s0 s1 : St} {rels sub : List W}
theorem fillF_closed : ∀ (fuel : Nat) {s : St}, Good g lim s → ∀ {r : Nat}, r < s.t.length → s.rp r = r → ∀ {w : W}, LOk g w → ∀ s', fillF (2 * g) lim fuel s r w = some s' → Clo s' r w
  | 0, _, _, _, _, _, _, _, s', e => by cases e
  | fuel + 1, s, h, r, hr, hl, w, hw, s', e => by
    obtain ⟨a, b⟩ := scan_rest h.rest hr hl hw
    unfold fillF at e
    cases hsc : scanS (2 * g) s r w with
    | mk s2 o =>
      rw [hsc] at e
      cases o with
      | none =>
        simp only at e
        cases e
        exact scan_closed h.rest hr hl hw hsc
      | some fc =>
        obtain ⟨f, c⟩ := fc
        simp only at e
        obtain ⟨-, h2, h3, h4, h5⟩ := b _ _ _ hsc
        split at e
        · cases e
        · rename_i hne
          obtain ⟨k1, k2⟩ := h.defn h2 h3 h4 h5 (by have := h.n2; omega)
          have hn := length_def (s := s) (2 * g) f c
          exact fillF_closed fuel k1 (r := r) (by omega) (by rw [rp_def_old h.rest.inv _ _ _ hr]; exact hl) hw s' e
theorem fill_closed (h : Good g lim s) {r : Nat} (hr : r < s.t.length) (hl : s.rp r = r) {w : W} (hw : LOk g w) {s' : St} (e : fillS (2 * g) lim s r w = some s') : Clo s' r w := fillF_closed _ h hr hl hw s' e
/-- the relators are closed at the cosets below k -/
def RC (rels : List W) (s : St) (k : Nat) : Prop := ∀ x, x < k → x < s.t.length → ∀ i, i < rels.length → Clo s x (rels.getD i [])
theorem RC.ext (h0 : Rest g s0) (h : Ext g s0 s1) (hr : ∀ j, j < rels.length → LOk g (rels.getD j [])) {k : Nat} (hk : k ≤ s0.t.length) (hc : RC rels s0 k) : RC rels s1 k := fun x hx _ i hi =>
  (hc x hx (by omega) i hi).ext h0 h (by omega) (hr i hi)
theorem clo_rp (h : Inv g s) {r : Nat} (hr : r < s.t.length) {w : W} (hc : Clo s (s.rp r) w) : Clo s r w := by
  unfold Clo at hc ⊢
  rwa [h.rid r hr] at hc
theorem rel_closed (hs : ∀ j, j < rels.length → LOk g (rels.getD j [])) {r : Nat} (h : Good g lim s) (hr : r < s.t.length) (hC : RC rels s r) {s' : St} {k : Nat} (e : optTo (relS (2 * g) lim rels r) k s = some s') :
    Good g lim s' ∧ Ext g s s' ∧ ∀ j, j < k → j < rels.length → Clo s' r (rels.getD j []) :=
  optTo_inv (p := fun k x => Good g lim x ∧ Ext g s x ∧ ∀ j, j < k → j < rels.length → Clo x r (rels.getD j [])) ⟨h, Ext.refl h.rest, fun j hj => absurd hj (by omega)⟩ k (fun i x y _ ⟨hx, hx2, hx3⟩ hy => by
    have hrx : r < x.t.length := Nat.lt_of_lt_of_le hr hx2.n
    unfold relS at hy
    split at hy
    · rename_i hl
      obtain ⟨a, b⟩ := fill_good hx hrx hl (getD_all hs LOk.nil i) hy
      refine ⟨a, hx2.trans h.rest hx.rest b, fun j hj hjl => ?_⟩
      by_cases e : j = i
      · subst e
        exact fill_closed hx hrx hl (hs j hjl) hy
      · exact (hx3 j (by omega) hjl).ext hx.rest b hrx (hs j hjl)
    · rename_i hl
      cases hy
      refine ⟨hx, hx2, fun j hj hjl => ?_⟩
      have h1 := hx.rest.inv.rle r hrx
      have hC' := RC.ext h.rest hx2 hs (by omega) hC
      exact clo_rp hx.rest.inv hrx (hC' (x.rp r) (by omega) (by omega) j hjl)) s' e
theorem row_closed (hs : ∀ j, j < rels.length → LOk g (rels.getD j [])) {r : Nat} (h : Good g lim s) (hr : r < s.t.length) (hC : RC rels s r) {s' : St} (e : rowS (2 * g) lim rels r s = some s') : RC rels s' (r + 1) := by
  unfold rowS at e
  cases hx : optTo (relS (2 * g) lim rels r) rels.length s with
  | none => rw [hx] at e; cases e
  | some x =>
    rw [hx] at e
    obtain ⟨a, b, c⟩ := rel_closed hs h hr hC hx
    have hrx : r < x.t.length := Nat.lt_of_lt_of_le hr b.n
    obtain ⟨a2, b2, -, -⟩ := col_good a hrx (Nat.le_refl _) e
    have hE := b.trans h.rest a.rest b2
    intro y hy hyn i hi
    rcases Nat.lt_or_ge y r with h1 | h1
    · exact RC.ext h.rest hE hs (by omega) hC y h1 hyn i hi
    · obtain rfl : y = r := by omega
      exact (c i hi hi).ext a.rest b2 hrx (hs i hi)
theorem sub_closed (hg : 1 ≤ lim) (hs : ∀ j, j < sub.length → LOk g (sub.getD j [])) {s' : St} {k : Nat} (e : optTo (subS (2 * g) lim sub) k (startS (2 * g)) = some s') :
    Good g lim s' ∧ ∀ j, j < k → j < sub.length → Clo s' 0 (sub.getD j []) :=
  optTo_inv (p := fun k s => Good g lim s ∧ ∀ j, j < k → j < sub.length → Clo s 0 (sub.getD j [])) ⟨start_good hg, fun j hj => absurd hj (by omega)⟩ k (fun i x y _ ⟨hx, hx2⟩ hy => by
    obtain ⟨a, b⟩ := fill_good hx hx.n1 (rp_zero hx.rest hx.n1) (getD_all hs LOk.nil i) hy
    refine ⟨a, fun j hj hjl => ?_⟩
    by_cases e : j = i
    · subst e
      exact fill_closed hx hx.n1 (rp_zero hx.rest hx.n1) (hs j hjl) hy
    · exact (hx2 j (by omega) hjl).ext hx.rest b hx.n1 (hs j hjl)) s' e
theorem run_closed (hg : 1 ≤ lim) (hr : ∀ j, j < rels.length → LOk g (rels.getD j [])) (hs : ∀ j, j < sub.length → LOk g (sub.getD j [])) {s' : St} (e : runS (2 * g) lim rels sub = some s') :
    RC rels s' s'.t.length ∧ ∀ j, j < sub.length → Clo s' 0 (sub.getD j []) := by
  unfold runS at e
  cases hx : optTo (subS (2 * g) lim sub) sub.length (startS (2 * g)) with
  | none => rw [hx] at e; cases e
  | some x =>
    rw [hx] at e
    obtain ⟨hG, hsub⟩ := sub_closed hg hs hx
    obtain ⟨a, b, c⟩ := optTo_inv (p := fun k y => Good g lim y ∧ (RC rels y k ∧ Comp g y k) ∧ ∀ j, j < sub.length → Clo y 0 (sub.getD j [])) ⟨hG, ⟨fun x hx => absurd hx (by omega), fun x hx => absurd hx (by omega)⟩, fun j hj => hsub j hj hj⟩ lim (fun r x y _ ⟨hx1, ⟨hx2, hx3⟩, hx4⟩ hy => by
      unfold rowsS at hy
      split at hy
      · rename_i hlt
        obtain ⟨a, b, c⟩ := row_good hr hx1 hlt hx3 hy
        exact ⟨a, ⟨row_closed hr hx1 hlt hx2 hy, c⟩, fun j hj => (hx4 j hj).ext hx1.rest b hx1.n1 (hs j hj)⟩
      · rename_i hlt
        cases hy
        exact ⟨hx1, ⟨fun z _ hzn => hx2 z (by omega) hzn, fun z _ hzn c hcc => hx3 z (by omega) hzn c hcc⟩, hx4⟩) s' e
    exact ⟨fun z hz hzn => b.1 z (by have := a.n2; omega) hzn, c⟩
/-- an edge of the table of the living -/
theorem tab_edge (h : Rest g s) {x y c : Nat} (hx : x < s.t.length) (hc : c < 2 * g) (he : Edge s.t x c y) : num s x < (tabS s).length ∧ Edge (tabS s) (num s x) c (num s y) := by
  obtain ⟨h1, h2, h3⟩ := h.live hx hc he
  obtain ⟨k1, k2⟩ := num_lt (n := s.t.length) hx h1
  refine ⟨by rw [length_tab]; exact k1, ?_⟩
  unfold Edge
  have h4 : (liv s).getD (num s x) 0 = x := k2
  rw [at_tab k1 (by rw [h4, h.inv.len x hx]; exact hc), h4, show s.t.at x c = (y : Int) from he, Int.toNat_natCast]
theorem tab_way (h : Rest g s) : ∀ {w : W} {x y : Nat}, LOk g w → x < s.t.length → Way s.t x w y → Way (tabS s) (num s x) w (num s y) := by
  intro w
  induction w with
  | nil => intro x y _ _ e; have e : x = y := e; rw [e]; exact rfl
  | cons l w ih =>
    rintro x y hw hx ⟨z, h1, h2⟩
    have hz := h1.lt h.inv hx (col_ltL hw.cons.1)
    exact ⟨_, (tab_edge h hx (col_ltL hw.cons.1) h1).2, ih hw.cons.2 hz h2⟩
/-- the words that are closed, in the table of the living -/
theorem tab_closed (h : Rest g s) (hr : ∀ j, j < rels.length → LOk g (rels.getD j [])) (hC : RC rels s s.t.length) : ∀ i, i < (tabS s).length → ∀ j, j < rels.length → Way (tabS s) i (rels.getD j []) i := fun i hi j hj => by
  rw [length_tab] at hi
  obtain ⟨h1, h2, h3⟩ := livTo_at (s := s) s.t.length i hi
  have := hC _ h1 h1 j hj
  unfold Clo at this
  rw [h2] at this
  have h4 := tab_way h (hr j hj) h1 this
  rwa [h3] at h4
theorem tab_closed0 (h : Rest g s) (hn : 1 ≤ s.t.length) {w : W} (hw : LOk g w) (hC : Clo s 0 w) : Way (tabS s) 0 w 0 := by
  unfold Clo at hC
  rw [rp_zero h hn] at hC
  exact tab_way h hw hn hC
end
end Go.Proofs.Ct
