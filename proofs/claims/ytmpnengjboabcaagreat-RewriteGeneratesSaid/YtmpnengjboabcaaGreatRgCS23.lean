/- The walk of RewriteKnown; Trace of both; The program's Images; The walk of CosetKnown; Words of the call's own, by blocks; results of a presentation and a number. -/
import Derived.Test.YtmpnengjboabcaaGreatRgCS14
import Derived.Test.YtmpnengjboabcaaGreatRgCS11
import Derived.Test.YtmpnengjboabcaaGreatRgCS22
import Derived.Test.YtmpnengjboabcaaGreatRgCS17
import Derived.Test.YtmpnengjboabcaaGreatRgCS7
import Derived.Test.YtmpnengjboabcaaGreatRgCS12
namespace Go.Proofs
open Go.RowKit Go.Shelf Go.Proofs.Ct Go.Maps
def smallT : List (List Int) := [[1, 1], [2, 2, 2], [1, 2, 1, 2]]
def sixT : List (List Int) := [[2], [1, 1, 1], [3, 2, 1], [2], [3, 3, 3], [2, 1, 3]]
theorem known_count : countE 2 halfT = 3 ∧ (repsE 2 halfT).2 = 0 := by decide +kernel
theorem known_a : rewE 2 halfT 0 [1, 2, -1, 2] = ([3, 1], 0) := by decide +kernel
theorem known_b : rewE 2 halfT 1 [1, 2] = ([2, 1], 0) := by decide +kernel
theorem known_c : rewE 2 halfT 0 [1, -1] = ([], 0) := by decide +kernel
theorem known_p : presentE 2 smallT halfT = ((3, sixT), 0) := by decide +kernel
theorem known_q : presentE 2 smallT [[0, 0, 0, 0]] = ((2, smallT), 0) := by decide +kernel
theorem known_r : presentE 1 [] [[0, 0]] = ((1, []), 0) := by decide +kernel
theorem known_n : countE 1 [[1, 1], [0, 0]] = 1 ∧ (repsE 1 [[1, 1], [0, 0]]).2 = 0 := by decide +kernel
theorem known_g : rewE 2 halfT 2 [] = ([], 2) := by decide +kernel
theorem ints_blk {w : World} {b : Nat} {xs : List Int} (h : w.heap[b]? = some (.cells (ints xs).toArray 3 (0, 0))) (hf : Fits xs) {n : Nat} (hn : xs.length = n) (hm : n ≤ 1000) : IntsAt w (.slice (some ⟨b, 0, none⟩) n n) xs := by
  subst hn
  have hl : xs.length ≤ 9223372036854775807 := by omega
  refine ⟨⟨_, xs.length, xs.length, rfl, by simp [ints], Nat.le_refl _, by simpa [maxLen] using hl, fun _ => ⟨b, 0, rfl, fun j u hu => ?_⟩⟩, hf⟩
  rw [cell_of_row _ _ _ _ _ _ h, Nat.zero_add]
  simpa using hu
theorem tab_blk {w : World} {b : Nat} {us : List Value} {xs : List (List Int)} {e : TypeId} (hb : w.heap[b]? = some (.cells us.toArray e (0, 0))) {n : Nat} (hn : us.length = n) (hl : us.length = xs.length) (hm : us.length ≤ 1000) (h : ∀ i, i < xs.length → IntsAt w (us.getD i undef) (xs.getD i [])) :
    Tab w (.slice (some ⟨b, 0, none⟩) n n) xs := by
  subst hn
  have hl9 : us.length ≤ 9223372036854775807 := by omega
  refine ⟨us, ⟨_, us.length, us.length, rfl, rfl, Nat.le_refl _, by simpa [maxLen] using hl9, fun _ => ⟨b, 0, rfl, fun j u hu => ?_⟩⟩, hl, fun i hi => ?_⟩
  · rw [cell_of_row _ _ _ _ _ _ hb, Nat.zero_add]
    simpa using hu
  · have hi' : i < us.length := by omega
    refine ⟨us.getD i undef, ?_, h i hi⟩
    simp [List.getD_eq_getElem?_getD, hi']
theorem fits_lit {xs : List Int} (h : (xs.all fun x => decide (-1000 ≤ x) && decide (x ≤ 1000)) = true) : Fits xs := fun x hx => by
  have := List.all_eq_true.1 h x hx
  simp at this
  omega
theorem tab_empty {w w' : World} {v : Value} (h : Tab w v []) : Tab w' v [] := by
  obtain ⟨vs, ⟨A, n, cap, e, hn, h3, h4, -⟩, hl, -⟩ := h
  have h0 : n = 0 := by rw [hn, hl]; rfl
  exact ⟨vs, ⟨A, n, cap, e, hn, h3, h4, fun h => absurd h (by omega)⟩, hl, fun i hi => absurd hi (by simp)⟩
theorem build40s (g : Int) (A : Option Addr) (n c : Nat) (w : World) : (Instr.build 26 #[(0, .int .i64 g), (1, .slice A n c)]).run Tryz.prog w = .ok (.agg #[.int .i64 g, .slice A n c]) w := by kernel_rfl
section
variable {o : Oper} {a : Act} {w w' : World} {n : Nat} {v : Value}
theorem r_build40s (x y : Operand) (g : Int) (A : Option Addr) (m c : Nat) (ho : o.op = .build 26 #[(0, x), (1, y)]) (hx : a.eval x = .int .i64 g) (hy : a.eval y = .slice A m c) : (execOp a.eval o).run Tryz.prog w = .ok (.value (.agg #[.int .i64 g, .slice A m c])) w := by
  have hb := build40s g A m c w
  unfold execOp
  simp only [ho, List.map_toArray, List.map_cons, List.map_nil, hx, hy, Sem.run_bind, hb, Result.andThen_ok]
  rfl
theorem r_call0 {f : FuncId} (T : Array TypeId) (ho : o.op = .call { callee := .value (.func f), args := #[], argTypes := T })
    (he : ∀ args w, (callFunc f args).run Tryz.prog w = .ok (.enter f args) w) : (execOp a.eval o).run Tryz.prog w = .ok (.enter f #[]) w := by
  have hf : a.eval (.func f) = .func (.func f) #[] #[] := rfl
  unfold execOp
  simp only [ho, resolve, List.map_toArray, List.map_nil, hf]
  simp [go_sem, he]
theorem r_eq0 (T : TypeId) (x y : Operand) (ho : o.op = .binOp .eql T x y T) (hx : a.eval x = .int .i64 0) (hy : a.eval y = .int .i64 0) (_hr : (binOp .eql T (.int .i64 0) (.int .i64 0)).run Tryz.prog w = .ok (.bool true) w) : (execOp a.eval o).run Tryz.prog w = .ok (.value (.bool true)) w := by
  unfold execOp
  simp only [ho, hx, hy]
  simp [go_sem]
end
theorem results_40 {fn : Func} {p : Tmp} (h : fn.results = #[.cell p 26]) (tmps : Array Value) (w : World) (g : Nat) (cs : Array Value)
    (hp : tmps.getD p undef = .pointer (some ⟨g, 0, none⟩)) (hg : w.heap[g]? = some (.cells cs 26 (0, 0))) (hs : cs.size = 2) :
    (results fn tmps).run Tryz.prog w = .ok (.agg cs) w := by
  have hp' : tmps[p]?.getD undef = .pointer (some ⟨g, 0, none⟩) := by simpa using hp
  simp [results, h, hp', asAddr, run_loadVar_row w g 26 26 cs (0, 0) _ hg Tryz.underlying26 rfl (by rw [hs]; exact info40s)]
def PresAt (g : Int) (l : List (List Int)) (w : World) (e : Ending) (w' : World) : Prop := (∃ A c, e = .returned (.agg #[.int .i64 g, .slice A l.length c]) ∧ Tab w' (.slice A l.length c) l) ∧ Below w.heap.size w w'
set_option maxRecDepth 100000 in
theorem small28_any (w : World) : Calls Tryz.prog 18 #[] w (PresAt 2 smallT w) := by
  have hg : ∀ i o, [Obj.cells zero40 26, .cells (ints [1, 1]).toArray 3, .cells (ints [2, 2, 2]).toArray 3, .cells (ints [1, 2, 1, 2]).toArray 3, .cells #[.slice (some ⟨w.heap.size + 1, 0, none⟩) 2 2, .slice (some ⟨w.heap.size + 1 + 1, 0, none⟩) 3 3, .slice (some ⟨w.heap.size + 1 + 1 + 1, 0, none⟩) 4 4] 39][i]? = some o →
      (((((w.alloc (.cells zero40 26)).alloc (.cells (ints [1, 1]).toArray 3)).alloc (.cells (ints [2, 2, 2]).toArray 3)).alloc (.cells (ints [1, 2, 1, 2]).toArray 3)).alloc (.cells #[.slice (some ⟨w.heap.size + 1, 0, none⟩) 2 2, .slice (some ⟨w.heap.size + 1 + 1, 0, none⟩) 3 3, .slice (some ⟨w.heap.size + 1 + 1 + 1, 0, none⟩) 4 4] 39)).heap[w.heap.size + i]? = some o := fun i o h => allocs_get _ w i o h
  have hb : Below w.heap.size w (((((w.alloc (.cells zero40 26)).alloc (.cells (ints [1, 1]).toArray 3)).alloc (.cells (ints [2, 2, 2]).toArray 3)).alloc (.cells (ints [1, 2, 1, 2]).toArray 3)).alloc (.cells #[.slice (some ⟨w.heap.size + 1, 0, none⟩) 2 2, .slice (some ⟨w.heap.size + 1 + 1, 0, none⟩) 3 3, .slice (some ⟨w.heap.size + 1 + 1 + 1, 0, none⟩) 4 4] 39)) :=
    allocs_below [Obj.cells zero40 26, .cells (ints [1, 1]).toArray 3, .cells (ints [2, 2, 2]).toArray 3, .cells (ints [1, 2, 1, 2]).toArray 3, .cells #[.slice (some ⟨w.heap.size + 1, 0, none⟩) 2 2, .slice (some ⟨w.heap.size + 1 + 1, 0, none⟩) 3 3, .slice (some ⟨w.heap.size + 1 + 1 + 1, 0, none⟩) 4 4] 39] w w.heap.size (Nat.le_refl _)
  have HG := Lib.hid hg
  have HB := Lib.hid hb
  have HX := Lib.hid (hg 0 _ rfl)
  clear hg hb
  go_enter Tryz.func18, Tryz.ntmps18
  go_wp2_with (first
    | ((with_reducible refine wpList_sel 0 ?_); refine wpList_val rfl (r_alloc40 rfl) ?_)
    | ((with_reducible refine wpList_sel 5 ?_); refine wpList_val rfl (r_build40s _ (.tmp 4) 2 _ _ _ rfl rfl rfl) ?_; refine wpList_skip rfl (r_store40 (.tmp 0) (.tmp 5) rfl w.heap.size zero40 _ rfl rfl HX.out rfl rfl (one40 _ _ _ _)) ?_))
  try simp only [Exit.inBlock, Exit.then]
  refine bodyPost_ret (results_40 (p := 0) rfl _ _ w.heap.size _ rfl (setRow_heap _ _ _ _ _ _ HX.out) rfl) rfl ⟨⟨_, _, rfl, ?_⟩, below_setRow HB.out (Nat.le_refl _) _⟩
  refine tab_blk ((setRow_other _ _ _ _ (by omega)).trans (HG.out 4 _ rfl)) rfl rfl (by simp) fun i hi => ?_
  have hi3 : i = 0 ∨ i = 1 ∨ i = 2 := by simp [smallT] at hi; omega
  rcases hi3 with rfl | rfl | rfl
  · exact ints_blk ((setRow_other _ _ _ _ (by omega)).trans (HG.out 1 _ rfl)) (fits_lit (by decide)) rfl (by omega)
  · exact ints_blk ((setRow_other _ _ _ _ (by omega)).trans (HG.out 2 _ rfl)) (fits_lit (by decide)) rfl (by omega)
  · exact ints_blk ((setRow_other _ _ _ _ (by omega)).trans (HG.out 3 _ rfl)) (fits_lit (by decide)) rfl (by omega)
inductive SP where
  | eq (v : Value) | ints (l : List Int) | tab (l : List (List Int)) | pres (g : Int) (l : List (List Int)) | any
def SP.holds : SP → Value → World → Prop
  | .eq u, v, _ => v = u
  | .ints l, v, w => IntsAt w v l
  | .tab l, v, w => ∃ A c, v = .slice A l.length c ∧ Tab w v l
  | .pres g l, v, w => ∃ A c, v = .agg #[.int .i64 g, .slice A l.length c] ∧ Tab w (.slice A l.length c) l
  | .any, _, _ => True
theorem SP.keep {s : SP} {v : Value} {w w' : World} (h : Below w.heap.size w w') : s.holds v w → s.holds v w' := by
  cases s with
  | eq u => exact id
  | ints l => exact fun k => k.below h
  | tab l => exact fun ⟨A, c, e, k⟩ => ⟨A, c, e, kept_tab.below k h⟩
  | pres g l => exact fun ⟨A, c, e, k⟩ => ⟨A, c, e, kept_tab.below k h⟩
  | any => exact id
def svK : List SP := [.eq (.int .i64 0), .eq (.bool true), .eq (.bool true), .eq (.int .i64 0), .eq (.bool true), .eq (.bool true), .eq (.bool true), .pres 3 sixT, .ints [2], .ints [1, 1, 1], .ints [3, 2, 1], .ints [2], .ints [3, 3, 3], .ints [2, 1, 3], .tab sixT, .pres 3 sixT, .eq (.bool true), .eq (.bool true), .eq (.bool true), .pres 2 smallT, .pres 2 smallT, .eq (.bool true), .eq (.bool true)]
theorem bs1 (x : Int) (w : World) : (Instr.buildSlice 39 1 #[(0, .int .i64 x)]).run Tryz.prog w = .ok (.slice (some ⟨w.heap.size, 0, none⟩) 1 1) (w.alloc (.cells #[.int .i64 x] 3)) := by kernel_rfl
theorem bs3 (x y z : Int) (w : World) : (Instr.buildSlice 39 3 #[(0, .int .i64 x), (1, .int .i64 y), (2, .int .i64 z)]).run Tryz.prog w = .ok (.slice (some ⟨w.heap.size, 0, none⟩) 3 3) (w.alloc (.cells #[.int .i64 x, .int .i64 y, .int .i64 z] 3)) := by kernel_rfl
theorem bs6 (A B C D E F : Option Addr) (n1 n2 n3 n4 n5 n6 c1 c2 c3 c4 c5 c6 : Nat) (w : World) : (Instr.buildSlice 24 6 #[(0, .slice A n1 c1), (1, .slice B n2 c2), (2, .slice C n3 c3), (3, .slice D n4 c4), (4, .slice E n5 c5), (5, .slice F n6 c6)]).run Tryz.prog w = .ok (.slice (some ⟨w.heap.size, 0, none⟩) 6 6) (w.alloc (.cells #[.slice A n1 c1, .slice B n2 c2, .slice C n3 c3, .slice D n4 c4, .slice E n5 c5, .slice F n6 c6] 39)) := by kernel_rfl
section
variable {o : Oper} {a : Act} {w w' : World} {n : Nat} {v : Value}
theorem r_bs1 (x : Operand) (i : Int) (ho : o.op = .buildSlice 39 1 #[(0, x)]) (hx : a.eval x = .int .i64 i) : (execOp a.eval o).run Tryz.prog w = .ok (.value (.slice (some ⟨w.heap.size, 0, none⟩) 1 1)) (w.alloc (.cells #[.int .i64 i] 3)) := by
  have hb := bs1 i w
  unfold execOp
  simp only [ho, List.map_toArray, List.map_cons, List.map_nil, hx, Sem.run_bind, hb, Result.andThen_ok]
  rfl
theorem r_bs3 (x y z : Operand) (i j k : Int) (ho : o.op = .buildSlice 39 3 #[(0, x), (1, y), (2, z)]) (hx : a.eval x = .int .i64 i) (hy : a.eval y = .int .i64 j) (hz : a.eval z = .int .i64 k) : (execOp a.eval o).run Tryz.prog w = .ok (.value (.slice (some ⟨w.heap.size, 0, none⟩) 3 3)) (w.alloc (.cells #[.int .i64 i, .int .i64 j, .int .i64 k] 3)) := by
  have hb := bs3 i j k w
  unfold execOp
  simp only [ho, List.map_toArray, List.map_cons, List.map_nil, hx, hy, hz, Sem.run_bind, hb, Result.andThen_ok]
  rfl
theorem r_bs6 (x1 x2 x3 x4 x5 x6 : Operand) {A B C D E F : Option Addr} {n1 n2 n3 n4 n5 n6 c1 c2 c3 c4 c5 c6 : Nat} (ho : o.op = .buildSlice 24 6 #[(0, x1), (1, x2), (2, x3), (3, x4), (4, x5), (5, x6)])
    (h1 : a.eval x1 = .slice A n1 c1) (h2 : a.eval x2 = .slice B n2 c2) (h3 : a.eval x3 = .slice C n3 c3) (h4 : a.eval x4 = .slice D n4 c4) (h5 : a.eval x5 = .slice E n5 c5) (h6 : a.eval x6 = .slice F n6 c6) :
    (execOp a.eval o).run Tryz.prog w = .ok (.value (.slice (some ⟨w.heap.size, 0, none⟩) 6 6)) (w.alloc (.cells #[.slice A n1 c1, .slice B n2 c2, .slice C n3 c3, .slice D n4 c4, .slice E n5 c5, .slice F n6 c6] 39)) := by
  have hb := bs6 A B C D E F n1 n2 n3 n4 n5 n6 c1 c2 c3 c4 c5 c6 w
  unfold execOp
  simp only [ho, List.map_toArray, List.map_cons, List.map_nil, h1, h2, h3, h4, h5, h6, Sem.run_bind, hb, Result.andThen_ok]
  rfl
end
theorem ints_new {w : World} {xs : List Int} (hf : (xs.all fun x => decide (-1000 ≤ x) && decide (x ≤ 1000)) = true) {n : Nat} (hn : xs.length = n) (hm : n ≤ 1000) : IntsAt (w.alloc (.cells (ints xs).toArray 3)) (.slice (some ⟨w.heap.size, 0, none⟩) n n) xs :=
  ints_blk (heap_alloc_new w _) (fits_lit hf) hn hm
theorem call26 (args : Array Value) (w : World) : (callFunc 19 args).run Tryz.prog w = .ok (.enter 19 args) w := enters_of Tryz.func19 (by kernel_rfl) rfl args w
theorem call28 (args : Array Value) (w : World) : (callFunc 18 args).run Tryz.prog w = .ok (.enter 18 args) w := enters_of Tryz.func18 (by kernel_rfl) rfl args w
theorem same26_yes (w : World) (va vb : Value) (g : Int) (A : List (List Int)) (ha : Tab w va A) (hb : Tab w vb A) : Calls Tryz.prog 19 #[.agg #[.int .i64 g, va], .agg #[.int .i64 g, vb]] w fun e w' => e = .returned (.bool true) ∧ Below w.heap.size w w' :=
  (same26_any w va vb g g A A ha hb).mono fun _e _w' ⟨h, h'⟩ => ⟨h.trans (ret_bool (decide_eq_true ⟨rfl, rfl⟩)), h'⟩
set_option maxRecDepth 100000 in
set_option maxHeartbeats 8000000 in
theorem known_walk (w : World) : Calls Tryz.prog 5 #[] w fun e w' => e = .returned (.bool true) ∧ Below w.heap.size w w' := by
  have H16 : Hid (∀ (W : World) (u : Value), Tab W u halfT → Calls Tryz.prog 8 #[.int .i64 2, u] W fun e w' => e = .returned (.tuple #[.int .i64 3, .int .i64 0]) ∧ Below W.heap.size W w') := Lib.hid fun W u h => (count16_any W u 2 halfT h).mono fun e w' ⟨a, b⟩ => by rw [known_count.1, known_count.2] at a; exact ⟨a, b⟩
  have H20 : Hid (∀ (W : World) (u v : Value) (fr : Int) (ws l : List Int) (x : Int), rewE 2 halfT fr ws = (l, x) → Tab W u halfT → IntsAt W v ws → Calls Tryz.prog 16 #[.int .i64 2, u, .int .i64 fr, v] W fun e w' => (∃ A c, e = .returned (.tuple #[.slice A l.length c, .int .i64 x]) ∧ Hid (IntsAt w' (.slice A l.length c) l)) ∧ Below W.heap.size W w') := Lib.hid fun W u v fr ws l x hE hu hv => (rewrite20_any W u v 2 fr halfT ws hu hv).mono fun e w' ⟨⟨z, h1, h2⟩, h3⟩ => by
    rw [hE] at h1 h2
    obtain ⟨A, c, rfl, -, -, -⟩ := h2.open_
    exact ⟨⟨A, c, h1, Lib.hid h2⟩, h3⟩
  have H24 : Hid (∀ (W : World) (v u : Value) (g : Int) (rels : List (List Int)) (t : Tb) (m : Int) (l : List (List Int)), presentE g rels t = ((m, l), 0) → Tab W v rels → Tab W u t → Calls Tryz.prog 14 #[.agg #[.int .i64 g, v], u] W fun e w' => (∃ A c, e = .returned (.tuple #[.agg #[.int .i64 m, .slice A l.length c], .int .i64 0]) ∧ Hid (Tab w' (.slice A l.length c) l)) ∧ Below W.heap.size W w') := Lib.hid fun W v u g rels t m l hE hv hu => (present24_any W v u g rels t hv hu).mono fun e w' ⟨⟨z, h1, h2⟩, h3⟩ => by
    rw [hE] at h1 h2
    obtain ⟨A, c, rfl⟩ := Tab.form h2
    exact ⟨⟨A, c, h1, Lib.hid h2⟩, h3⟩
  have H23 : Hid (∀ (W : World) (u v : Value) (x : List Int), IntsAt W u x → IntsAt W v x → Calls Tryz.prog 17 #[u, v] W fun e w' => e = .returned (.bool true) ∧ Below W.heap.size W w') := Lib.hid fun W u v x h1 h2 => (equal23_any W u v x x h1 h2).mono fun e w' ⟨h, h'⟩ => ⟨h.trans (ret_bool (decide_eq_true rfl)), h'⟩
  have HL : Hid (∀ (W : World) (xs : List Int), Below W.heap.size W (W.alloc (.cells (ints xs).toArray 3))) := Lib.hid fun W xs => (Below.refl _ _).alloc (Nat.le_refl _) _
  go_enter Tryz.func5, Tryz.ntmps5
  go_wp2_with fail
  refine (half27_any _).mono ?_
  rintro e w1 ⟨⟨u1, rfl, hu1⟩, hb1⟩
  obtain ⟨A1, c1, rfl⟩ := Tab.form hu1
  have HU1 := Lib.hid hu1
  have HB1 := Lib.hid hb1
  clear hu1 hb1
  go_wp2_with fail
  refine (H16.out _ _ HU1.out).mono ?_
  rintro e w2 ⟨rfl, hb⟩
  have HB2 := Lib.hid (HB1.out.trans (hb.mono HB1.out.size))
  clear hb HB1 HU1
  go_wp2_with fail
  refine (half27_any _).mono ?_
  rintro e w3 ⟨⟨u3, rfl, hu⟩, hb⟩
  obtain ⟨A3, c3, rfl⟩ := Tab.form hu
  have HU3 := Lib.hid hu
  have HB3 := Lib.hid (HB2.out.trans (hb.mono HB2.out.size))
  clear hu hb HB2
  go_wp2_with fail
  refine (H20.out _ _ _ 0 [1, 2, -1, 2] [3, 1] 0 known_a (kept_tab.below HU3.out (HL.out w3 [1, 2, -1, 2])) (ints_new (w := w3) (xs := [1, 2, -1, 2]) (by decide) rfl (by simp))).mono ?_
  rintro e w4 ⟨⟨A4, c4, rfl, HR4⟩, hb⟩
  have HB4 := Lib.hid (HB3.out.trans (((HL.out w3 [1, 2, -1, 2]).trans (hb.mono (HL.out w3 [1, 2, -1, 2]).size)).mono HB3.out.size))
  clear hb HB3 HU3
  go_wp2_with fail
  refine (half27_any _).mono ?_
  rintro e w5 ⟨⟨u5, rfl, hu⟩, hb⟩
  obtain ⟨A5, c5, rfl⟩ := Tab.form hu
  have HU5 := Lib.hid hu
  have HR5 := Lib.hid (HR4.out.below hb)
  have HB5 := Lib.hid (HB4.out.trans (hb.mono HB4.out.size))
  clear hu hb HB4 HR4
  go_wp2_with fail
  refine (H20.out _ _ _ 1 [1, 2] [2, 1] 0 known_b (kept_tab.below HU5.out (HL.out w5 [1, 2])) (ints_new (w := w5) (xs := [1, 2]) (by decide) rfl (by simp))).mono ?_
  rintro e w6 ⟨⟨A6, c6, rfl, HS6⟩, hb⟩
  have HR6 := Lib.hid (HR5.out.below ((HL.out w5 [1, 2]).trans (hb.mono (HL.out w5 [1, 2]).size)))
  have HB6 := Lib.hid (HB5.out.trans (((HL.out w5 [1, 2]).trans (hb.mono (HL.out w5 [1, 2]).size)).mono HB5.out.size))
  clear hb HB5 HU5 HR5
  go_wp2_with fail
  refine (half27_any _).mono ?_
  rintro e w7 ⟨⟨u7, rfl, hu⟩, hb⟩
  obtain ⟨A7, c7, rfl⟩ := Tab.form hu
  have HU7 := Lib.hid hu
  have HR7 := Lib.hid (HR6.out.below hb)
  have HS7 := Lib.hid (HS6.out.below hb)
  have HB7 := Lib.hid (HB6.out.trans (hb.mono HB6.out.size))
  clear hu hb HB6 HR6 HS6
  go_wp2_with fail
  refine (H20.out _ _ _ 0 [1, -1] [] 0 known_c (kept_tab.below HU7.out (HL.out w7 [1, -1])) (ints_new (w := w7) (xs := [1, -1]) (by decide) rfl (by simp))).mono ?_
  rintro e w8 ⟨⟨A8, c8, rfl, -⟩, hb⟩
  have hbb := (HL.out w7 [1, -1]).trans (hb.mono (HL.out w7 [1, -1]).size)
  have HR8 := Lib.hid (HR7.out.below hbb)
  have HS8 := Lib.hid (HS7.out.below hbb)
  have HB8 := Lib.hid (HB7.out.trans (hbb.mono HB7.out.size))
  clear hb hbb HB7 HU7 HR7 HS7
  go_wp2_with fail
  refine (H23.out _ _ _ [3, 1] (HR8.out.below (HL.out w8 [3, 1])) (ints_new (w := w8) (xs := [3, 1]) (by decide) rfl (by simp))).mono ?_
  rintro e w9 ⟨rfl, hb⟩
  have hbb := (HL.out w8 [3, 1]).trans (hb.mono (HL.out w8 [3, 1]).size)
  have HS9 := Lib.hid (HS8.out.below hbb)
  have HB9 := Lib.hid (HB8.out.trans (hbb.mono HB8.out.size))
  clear hb hbb HB8 HR8 HS8
  go_wp2_with fail
  refine (H23.out _ _ _ [2, 1] (HS9.out.below (HL.out w9 [2, 1])) (ints_new (w := w9) (xs := [2, 1]) (by decide) rfl (by simp))).mono ?_
  rintro e w10 ⟨rfl, hb⟩
  have hbb := (HL.out w9 [2, 1]).trans (hb.mono (HL.out w9 [2, 1]).size)
  have HB10 := Lib.hid (HB9.out.trans (hbb.mono HB9.out.size))
  clear hb hbb HB9 HS9
  go_wp2_with fail
  refine (small28_any _).mono ?_
  rintro e w11 ⟨⟨A11, c11, rfl, ht⟩, hb⟩
  have HT11 := Lib.hid ht
  have HB11 := Lib.hid (HB10.out.trans (hb.mono HB10.out.size))
  clear hb ht HB10
  go_wp2_with fail
  refine (half27_any _).mono ?_
  rintro e w12 ⟨⟨u12, rfl, hu⟩, hb⟩
  obtain ⟨A12, c12, rfl⟩ := Tab.form hu
  have HU12 := Lib.hid hu
  have HT12 := Lib.hid (kept_tab.below HT11.out hb)
  have HB12 := Lib.hid (HB11.out.trans (hb.mono HB11.out.size))
  clear hu hb HB11 HT11
  go_wp2_with fail
  refine (H24.out _ _ _ 2 smallT halfT 3 sixT known_p HT12.out HU12.out).mono ?_
  rintro e w13 ⟨⟨A13, c13, rfl, HT13⟩, hb⟩
  have HB13 := Lib.hid (HB12.out.trans (hb.mono HB12.out.size))
  have HN13 := Lib.hid (heap_alloc_new w13 (.cells zero40 26))
  have HX13 := Lib.hid (setRow_heap (w13.alloc (.cells zero40 26)) w13.heap.size zero40 #[.int .i64 3, .slice A13 sixT.length c13] 26 (0, 0) HN13.out)
  have hbx := below_boxed (Below.refl w13.heap.size w13) (.cells zero40 26) #[.int .i64 3, .slice A13 sixT.length c13]
  have HB14 := Lib.hid (HB13.out.trans (hbx.mono HB13.out.size))
  have HT14 := Lib.hid (kept_tab.below HT13.out hbx)
  clear hb hbx HB12 HU12 HT12
  go_wp2_with ((with_reducible refine wpList_sel 10 ?_); refine wpList_val rfl (r_alloc40 rfl) ?_; refine wpList_skip rfl (r_store40 (.tmp 10) (.tmp 73) rfl w13.heap.size zero40 #[.int .i64 3, .slice A13 sixT.length c13] rfl rfl HN13.out rfl rfl (one40 _ _ _ _)) ?_)
  generalize hw14 : (w13.alloc (.cells zero40 26)).setRow w13.heap.size #[.int .i64 3, .slice A13 sixT.length c13] = w14 at *
  have hl14 : w.heap.size ≤ w13.heap.size := HB13.out.size
  have HL14 := Lib.hid hl14
  clear hw14 HN13 HT13 HB13 hl14
  refine (small28_any _).mono ?_
  rintro e w15 ⟨⟨A15, c15, rfl, ht⟩, hb⟩
  have HT15 := Lib.hid ht
  have HX15 := Lib.hid ((hb.block _ (Array.getElem?_eq_some_iff.1 HX13.out).1).trans HX13.out)
  have HS15 := Lib.hid (kept_tab.below HT14.out hb)
  have HB15 := Lib.hid (HB14.out.trans (hb.mono HB14.out.size))
  clear hb ht HX13 HT14 HB14
  have hl1 := HL.out w15 [0, 0, 0, 0]
  have hl2 : Below (w15.alloc (.cells (ints [0, 0, 0, 0]).toArray 3)).heap.size (w15.alloc (.cells (ints [0, 0, 0, 0]).toArray 3)) ((w15.alloc (.cells (ints [0, 0, 0, 0]).toArray 3)).alloc (.cells #[.slice (some ⟨w15.heap.size, 0, none⟩) 4 4] 22)) := (Below.refl _ _).alloc (Nat.le_refl _) _
  have hl3 := hl1.trans (hl2.mono hl1.size)
  have HL3 := Lib.hid hl3
  have HTB : Hid (Tab ((w15.alloc (.cells (ints [0, 0, 0, 0]).toArray 3)).alloc (.cells #[.slice (some ⟨w15.heap.size, 0, none⟩) 4 4] 22)) (.slice (some ⟨w15.heap.size + 1, 0, none⟩) 1 1) [[0, 0, 0, 0]]) := Lib.hid (by
    have := tab_one (ints_new (w := w15) (xs := [0, 0, 0, 0]) (by decide) rfl (by simp) (n := 4))
    rwa [World.size_alloc] at this)
  clear hl1 hl2 hl3
  go_wp2_with fail
  refine (H24.out _ _ _ 2 smallT [[0, 0, 0, 0]] 2 smallT known_q (kept_tab.below HT15.out HL3.out) HTB.out).mono ?_
  rintro e w16 ⟨⟨A16, c16, rfl, HT16⟩, hb⟩
  have hbb := HL3.out.trans (hb.mono HL3.out.size)
  have HB16 := Lib.hid (HB15.out.trans (hbb.mono HB15.out.size))
  have hX16 := (hbb.block _ (Array.getElem?_eq_some_iff.1 HX15.out).1).trans HX15.out
  have hS16 := kept_tab.below HS15.out hbb
  have HN16 := Lib.hid (heap_alloc_new w16 (.cells zero40 26))
  have HX11 := Lib.hid (setRow_heap (w16.alloc (.cells zero40 26)) w16.heap.size zero40 #[.int .i64 2, .slice A16 smallT.length c16] 26 (0, 0) HN16.out)
  have hbx := below_boxed (Below.refl w16.heap.size w16) (.cells zero40 26) #[.int .i64 2, .slice A16 smallT.length c16]
  have HX10 := Lib.hid ((hbx.block _ (Array.getElem?_eq_some_iff.1 hX16).1).trans hX16)
  have HT10 := Lib.hid (kept_tab.below hS16 hbx)
  have HT11 := Lib.hid (kept_tab.below HT16.out hbx)
  have HBN := Lib.hid (HB16.out.trans (hbx.mono HB16.out.size))
  clear hb hbb hbx hX16 hS16 HX15 HS15 HB15 HT15 HT16 HTB HL3
  go_wp2_with ((with_reducible refine wpList_sel 11 ?_); refine wpList_val rfl (r_alloc40 rfl) ?_; refine wpList_skip rfl (r_store40 (.tmp 11) (.tmp 80) rfl w16.heap.size zero40 #[.int .i64 2, .slice A16 smallT.length c16] rfl rfl HN16.out rfl rfl (one40 _ _ _ _)) ?_)
  generalize hwn : (w16.alloc (.cells zero40 26)).setRow w16.heap.size #[.int .i64 2, .slice A16 smallT.length c16] = wn at *
  clear hwn HN16 HB16
  refine (wpIn_wide (n := 3)).1 ?_
  refine wpIn_region_g (by kernel_rfl) (fun i => 82 + i) 23 (tailed1_of (by kernel_rfl)) (fun _ w' => Below wn.heap.size wn w') (fun q v w => (svK.getD q SP.any).holds v w) (fun _ w w' => Below w.heap.size w w') (fun i j _ _ h => by simpa using h) (fun i j v w w' _ _ _ h => SP.keep h) (fun i hi => by show 82 + i < 152; omega) (Below.refl _ _).drew ?_ ?_
  · intro ls q o a w2 hq ho hS hls hsame hpre
    have hsz : a.tmps.size = 152 := hsame.size
    have hcases : q = 0 ∨ q = 1 ∨ q = 2 ∨ q = 3 ∨ q = 4 ∨ q = 5 ∨ q = 6 ∨ q = 7 ∨ q = 8 ∨ q = 9 ∨ q = 10 ∨ q = 11 ∨ q = 12 ∨ q = 13 ∨ q = 14 ∨ q = 15 ∨ q = 16 ∨ q = 17 ∨ q = 18 ∨ q = 19 ∨ q = 20 ∨ q = 21 ∨ q = 22 := by omega
    rcases hcases with rfl | rfl | rfl | rfl | rfl | rfl | rfl | rfl | rfl | rfl | rfl | rfl | rfl | rfl | rfl | rfl | rfl | rfl | rfl | rfl | rfl | rfl | rfl
    · obtain rfl := Option.some.inj ho; exact wpOpIn_of rfl rfl (wpW_val (r_move (.tmp 2) rfl ((hsame.out 2 (fun i _ h => by omega)))) ⟨_, rfl, hS, Below.refl _ _, rfl⟩)
    · obtain rfl := Option.some.inj ho; exact wpOpIn_of rfl rfl (wpW_val (r_eq0 32 (.tmp 82) (.const (.int .i64 0)) rfl (hpre ⟨0, .data⟩ (by simp) rfl) rfl (by kernel_rfl)) ⟨_, rfl, hS, Below.refl _ _, rfl⟩)
    · obtain rfl := Option.some.inj ho; exact wpOpIn_of rfl rfl (wpW_val (r_move (.tmp 83) rfl (hpre ⟨1, .data⟩ (by simp) rfl)) ⟨_, rfl, hS, Below.refl _ _, rfl⟩)
    · obtain rfl := Option.some.inj ho; exact wpOpIn_yes rfl rfl (yielded_of (g := 2) (t := 84) (b := true) rfl rfl (by omega) (hpre ⟨2, .guard⟩ (by simp) rfl)) (wpW_val (r_move (.tmp 4) rfl ((hsame.out 4 (fun i _ h => by omega)))) ⟨_, rfl, hS, Below.refl _ _, rfl⟩)
    · obtain rfl := Option.some.inj ho; exact wpOpIn_yes rfl rfl (yielded_of (g := 2) (t := 84) (b := true) rfl rfl (by omega) (hpre ⟨2, .guard⟩ (by simp) rfl)) (wpW_val (r_eq0 32 (.tmp 85) (.const (.int .i64 0)) rfl (hpre ⟨3, .data⟩ (by simp) rfl) rfl (by kernel_rfl)) ⟨_, rfl, hS, Below.refl _ _, rfl⟩)
    · obtain rfl := Option.some.inj ho; exact wpOpIn_of rfl rfl (wpW_val (r_pick (.tmp 84) (.tmp 86) (.const (.bool false)) true rfl (hpre ⟨2, .data⟩ (by simp) rfl) (by exact (hpre ⟨4, .data⟩ (by simp) rfl))) ⟨_, rfl, hS, Below.refl _ _, rfl⟩)
    · obtain rfl := Option.some.inj ho; exact wpOpIn_of rfl rfl (wpW_val (r_move (.tmp 87) rfl (hpre ⟨5, .data⟩ (by simp) rfl)) ⟨_, rfl, hS, Below.refl _ _, rfl⟩)
    · obtain rfl := Option.some.inj ho; exact wpOpIn_yes rfl rfl (yielded_of (g := 6) (t := 88) (b := true) rfl rfl (by omega) (hpre ⟨6, .guard⟩ (by simp) rfl)) (wpW_val (r_loadAt 26 (.tmp 10) _ _ rfl ((hsame.out 10 (fun i _ h => by omega))) (load40 ((hS.block _ (Array.getElem?_eq_some_iff.1 HX10.out).1).trans HX10.out))) ⟨_, rfl, hS, Below.refl _ _, A13, c13, rfl, kept_tab.below HT10.out hS⟩)
    · obtain rfl := Option.some.inj ho; exact wpOpIn_yes rfl rfl (yielded_of (g := 6) (t := 88) (b := true) rfl rfl (by omega) (hpre ⟨6, .guard⟩ (by simp) rfl)) (wpW_val (r_bs1 (.const (.int .i64 2)) 2 rfl rfl) ⟨_, rfl, hS.alloc hS.size _, (Below.refl _ _).alloc (Nat.le_refl _) _, ints_new (xs := [2]) (by decide) rfl (by simp)⟩)
    · obtain rfl := Option.some.inj ho; exact wpOpIn_yes rfl rfl (yielded_of (g := 6) (t := 88) (b := true) rfl rfl (by omega) (hpre ⟨6, .guard⟩ (by simp) rfl)) (wpW_val (r_bs3 (.const (.int .i64 1)) (.const (.int .i64 1)) (.const (.int .i64 1)) 1 1 1 rfl rfl rfl rfl) ⟨_, rfl, hS.alloc hS.size _, (Below.refl _ _).alloc (Nat.le_refl _) _, ints_new (xs := [1, 1, 1]) (by decide) rfl (by simp)⟩)
    · obtain rfl := Option.some.inj ho; exact wpOpIn_yes rfl rfl (yielded_of (g := 6) (t := 88) (b := true) rfl rfl (by omega) (hpre ⟨6, .guard⟩ (by simp) rfl)) (wpW_val (r_bs3 (.const (.int .i64 3)) (.const (.int .i64 2)) (.const (.int .i64 1)) 3 2 1 rfl rfl rfl rfl) ⟨_, rfl, hS.alloc hS.size _, (Below.refl _ _).alloc (Nat.le_refl _) _, ints_new (xs := [3, 2, 1]) (by decide) rfl (by simp)⟩)
    · obtain rfl := Option.some.inj ho; exact wpOpIn_yes rfl rfl (yielded_of (g := 6) (t := 88) (b := true) rfl rfl (by omega) (hpre ⟨6, .guard⟩ (by simp) rfl)) (wpW_val (r_bs1 (.const (.int .i64 2)) 2 rfl rfl) ⟨_, rfl, hS.alloc hS.size _, (Below.refl _ _).alloc (Nat.le_refl _) _, ints_new (xs := [2]) (by decide) rfl (by simp)⟩)
    · obtain rfl := Option.some.inj ho; exact wpOpIn_yes rfl rfl (yielded_of (g := 6) (t := 88) (b := true) rfl rfl (by omega) (hpre ⟨6, .guard⟩ (by simp) rfl)) (wpW_val (r_bs3 (.const (.int .i64 3)) (.const (.int .i64 3)) (.const (.int .i64 3)) 3 3 3 rfl rfl rfl rfl) ⟨_, rfl, hS.alloc hS.size _, (Below.refl _ _).alloc (Nat.le_refl _) _, ints_new (xs := [3, 3, 3]) (by decide) rfl (by simp)⟩)
    · obtain rfl := Option.some.inj ho; exact wpOpIn_yes rfl rfl (yielded_of (g := 6) (t := 88) (b := true) rfl rfl (by omega) (hpre ⟨6, .guard⟩ (by simp) rfl)) (wpW_val (r_bs3 (.const (.int .i64 2)) (.const (.int .i64 1)) (.const (.int .i64 3)) 2 1 3 rfl rfl rfl rfl) ⟨_, rfl, hS.alloc hS.size _, (Below.refl _ _).alloc (Nat.le_refl _) _, ints_new (xs := [2, 1, 3]) (by decide) rfl (by simp)⟩)
    · obtain rfl := Option.some.inj ho
      have k0 : IntsAt w2 (a.tmps.getD 90 undef) [2] := (hpre ⟨8, .data⟩ (by simp) rfl)
      obtain ⟨A0, c0, e0, -, -, -⟩ := k0.open_
      rw [e0] at k0
      have k1 : IntsAt w2 (a.tmps.getD 91 undef) [1, 1, 1] := (hpre ⟨9, .data⟩ (by simp) rfl)
      obtain ⟨A1, c1, e1, -, -, -⟩ := k1.open_
      rw [e1] at k1
      have k2 : IntsAt w2 (a.tmps.getD 92 undef) [3, 2, 1] := (hpre ⟨10, .data⟩ (by simp) rfl)
      obtain ⟨A2, c2, e2, -, -, -⟩ := k2.open_
      rw [e2] at k2
      have k3 : IntsAt w2 (a.tmps.getD 93 undef) [2] := (hpre ⟨11, .data⟩ (by simp) rfl)
      obtain ⟨A3, c3, e3, -, -, -⟩ := k3.open_
      rw [e3] at k3
      have k4 : IntsAt w2 (a.tmps.getD 94 undef) [3, 3, 3] := (hpre ⟨12, .data⟩ (by simp) rfl)
      obtain ⟨A4, c4, e4, -, -, -⟩ := k4.open_
      rw [e4] at k4
      have k5 : IntsAt w2 (a.tmps.getD 95 undef) [2, 1, 3] := (hpre ⟨13, .data⟩ (by simp) rfl)
      obtain ⟨A5, c5, e5, -, -, -⟩ := k5.open_
      rw [e5] at k5
      have hbb : Below w2.heap.size w2 (w2.alloc (.cells #[.slice A0 1 c0, .slice A1 3 c1, .slice A2 3 c2, .slice A3 1 c3, .slice A4 3 c4, .slice A5 3 c5] 39)) := (Below.refl _ _).alloc (Nat.le_refl _) _
      exact wpOpIn_yes rfl rfl (yielded_of (g := 6) (t := 88) (b := true) rfl rfl (by omega) (hpre ⟨6, .guard⟩ (by simp) rfl)) (wpW_val (r_bs6 (.tmp 90) (.tmp 91) (.tmp 92) (.tmp 93) (.tmp 94) (.tmp 95) rfl e0 e1 e2 e3 e4 e5) ⟨_, rfl, hS.trans (hbb.mono hS.size), hbb, _, _, rfl, tab_blk (us := [.slice A0 1 c0, .slice A1 3 c1, .slice A2 3 c2, .slice A3 1 c3, .slice A4 3 c4, .slice A5 3 c5]) (xs := sixT) (heap_alloc_new w2 _) rfl rfl (by simp) (fun i hi => by
        have h6 : i = 0 ∨ i = 1 ∨ i = 2 ∨ i = 3 ∨ i = 4 ∨ i = 5 := by simp [sixT] at hi; omega
        rcases h6 with rfl | rfl | rfl | rfl | rfl | rfl
        · exact k0.below hbb
        · exact k1.below hbb
        · exact k2.below hbb
        · exact k3.below hbb
        · exact k4.below hbb
        · exact k5.below hbb)⟩)
    · obtain rfl := Option.some.inj ho
      obtain ⟨A9, c9, e9, t9⟩ : SP.holds (.tab sixT) (a.tmps.getD 96 undef) w2 := (hpre ⟨14, .data⟩ (by simp) rfl)
      exact wpOpIn_yes rfl rfl (yielded_of (g := 6) (t := 88) (b := true) rfl rfl (by omega) (hpre ⟨6, .guard⟩ (by simp) rfl)) (wpW_val (r_build40s (.const (.int .i64 3)) (.tmp 96) 3 A9 6 c9 rfl rfl e9) ⟨_, rfl, hS, Below.refl _ _, A9, c9, rfl, by rw [e9] at t9; exact t9⟩)
    · obtain rfl := Option.some.inj ho
      obtain ⟨A8, c8, e8, t8⟩ : SP.holds (.pres 3 sixT) (a.tmps.getD 89 undef) w2 := (hpre ⟨7, .data⟩ (by simp) rfl)
      obtain ⟨A9, c9, e9, t9⟩ : SP.holds (.pres 3 sixT) (a.tmps.getD 97 undef) w2 := (hpre ⟨15, .data⟩ (by simp) rfl)
      exact wpOpIn_yes rfl rfl (yielded_of (g := 6) (t := 88) (b := true) rfl rfl (by omega) (hpre ⟨6, .guard⟩ (by simp) rfl)) (wpW_call (R := fun v w' => v = .bool true ∧ Below w2.heap.size w2 w') (r_call2 (.tmp 89) (.tmp 97) _ _ _ rfl e8 e9 call26) ((same26_yes w2 _ _ 3 sixT t8 t9).mono fun e w' ⟨he, hb⟩ => ⟨_, he, rfl, hb⟩) (fun v w'' h => ⟨v, rfl, hS.trans (h.2.mono hS.size), h.2, h.1⟩))
    · obtain rfl := Option.some.inj ho; exact wpOpIn_of rfl rfl (wpW_val (r_pick (.tmp 88) (.tmp 98) (.const (.bool false)) true rfl (hpre ⟨6, .data⟩ (by simp) rfl) (by exact (hpre ⟨16, .data⟩ (by simp) rfl))) ⟨_, rfl, hS, Below.refl _ _, rfl⟩)
    · obtain rfl := Option.some.inj ho; exact wpOpIn_of rfl rfl (wpW_val (r_move (.tmp 99) rfl (hpre ⟨17, .data⟩ (by simp) rfl)) ⟨_, rfl, hS, Below.refl _ _, rfl⟩)
    · obtain rfl := Option.some.inj ho; exact wpOpIn_yes rfl rfl (yielded_of (g := 18) (t := 100) (b := true) rfl rfl (by omega) (hpre ⟨18, .guard⟩ (by simp) rfl)) (wpW_val (r_loadAt 26 (.tmp 11) _ _ rfl ((hsame.out 11 (fun i _ h => by omega))) (load40 ((hS.block _ (Array.getElem?_eq_some_iff.1 HX11.out).1).trans HX11.out))) ⟨_, rfl, hS, Below.refl _ _, A16, c16, rfl, kept_tab.below HT11.out hS⟩)
    · obtain rfl := Option.some.inj ho
      exact wpOpIn_yes rfl rfl (yielded_of (g := 18) (t := 100) (b := true) rfl rfl (by omega) (hpre ⟨18, .guard⟩ (by simp) rfl)) (wpW_call (R := fun v w' => SP.holds (.pres 2 smallT) v w' ∧ Below w2.heap.size w2 w') (r_call0 _ rfl call28) ((small28_any w2).mono fun e w' ⟨⟨A, c, he, ht⟩, hb⟩ => ⟨_, he, ⟨A, c, rfl, ht⟩, hb⟩) (fun v w'' h => ⟨v, rfl, hS.trans (h.2.mono hS.size), h.2, h.1⟩))
    · obtain rfl := Option.some.inj ho
      obtain ⟨A8, c8, e8, t8⟩ : SP.holds (.pres 2 smallT) (a.tmps.getD 101 undef) w2 := (hpre ⟨19, .data⟩ (by simp) rfl)
      obtain ⟨A9, c9, e9, t9⟩ : SP.holds (.pres 2 smallT) (a.tmps.getD 102 undef) w2 := (hpre ⟨20, .data⟩ (by simp) rfl)
      exact wpOpIn_yes rfl rfl (yielded_of (g := 18) (t := 100) (b := true) rfl rfl (by omega) (hpre ⟨18, .guard⟩ (by simp) rfl)) (wpW_call (R := fun v w' => v = .bool true ∧ Below w2.heap.size w2 w') (r_call2 (.tmp 101) (.tmp 102) _ _ _ rfl e8 e9 call26) ((same26_yes w2 _ _ 2 smallT t8 t9).mono fun e w' ⟨he, hb⟩ => ⟨_, he, rfl, hb⟩) (fun v w'' h => ⟨v, rfl, hS.trans (h.2.mono hS.size), h.2, h.1⟩))
    · obtain rfl := Option.some.inj ho; exact wpOpIn_of rfl rfl (wpW_val (r_pick (.tmp 100) (.tmp 103) (.const (.bool false)) true rfl (hpre ⟨18, .data⟩ (by simp) rfl) (by exact (hpre ⟨21, .data⟩ (by simp) rfl))) ⟨_, rfl, hS, Below.refl _ _, rfl⟩)
  · intro ls a w2 hS hlst hsame hsl
    have h104 : a.tmps.getD 104 undef = .bool true := hsl 22 (by omega)
    obtain ⟨vs, hvs, hfr⟩ := hsame.frameV 152 rfl
    refine wpOpIn_of (o := ⟨some 12, .assign (.tmp 104), 4, "law.go:75", _, none⟩) rfl rfl (wpW_val (r_assign (.tmp 104) rfl h104) ?_)
    have HB20 := Lib.hid (HBN.out.trans (hS.mono HBN.out.size))
    have HX20 := Lib.hid ((hS.block _ (Array.getElem?_eq_some_iff.1 HX10.out).1).trans HX10.out)
    clear hsl hsame h104 hS hlst hvs HX10 HX11 HT10 HT11 HBN
    subst hfr
    dsimp only
    simp only [Act.put, List.range, List.range.loop, List.map_cons, List.map_nil, List.any_cons, List.any_nil, Nat.reduceAdd, Nat.reduceBEq, Bool.or_false, Bool.or_true, Bool.false_eq_true, if_true, if_false, List.getD_cons_zero, List.getD_cons_succ, List.setIfInBounds_toArray, List.set_cons_succ, List.set_cons_zero]
    have hl1 := HL.out w2 [0, 0]
    have hl2 : Below (w2.alloc (.cells (ints [0, 0]).toArray 3)).heap.size (w2.alloc (.cells (ints [0, 0]).toArray 3)) ((w2.alloc (.cells (ints [0, 0]).toArray 3)).alloc (.cells #[.slice (some ⟨w2.heap.size, 0, none⟩) 2 2] 22)) := (Below.refl _ _).alloc (Nat.le_refl _) _
    have hl3 := hl1.trans (hl2.mono hl1.size)
    have HL3 := Lib.hid hl3
    have HTB : Hid (Tab ((w2.alloc (.cells (ints [0, 0]).toArray 3)).alloc (.cells #[.slice (some ⟨w2.heap.size, 0, none⟩) 2 2] 22)) (.slice (some ⟨w2.heap.size + 1, 0, none⟩) 1 1) [[0, 0]]) := Lib.hid (by
      have := tab_one (ints_new (w := w2) (xs := [0, 0]) (by decide) rfl (by simp) (n := 2))
      rwa [World.size_alloc] at this)
    clear hl1 hl2 hl3
    go_wp2_with ((with_reducible refine wpList_sel 106 ?_); refine wpList_val rfl (r_build40m (.const (.int .i64 1)) 1 rfl rfl) ?_)
    refine (H24.out _ _ _ 1 [] [[0, 0]] 1 [] known_r tab_nil HTB.out).mono ?_
    rintro e w21 ⟨⟨A21, c21, rfl, HT21⟩, hb⟩
    have hbb := HL3.out.trans (hb.mono HL3.out.size)
    have HB21 := Lib.hid (HB20.out.trans (hbb.mono HB20.out.size))
    have HX21 := Lib.hid ((hbb.block _ (Array.getElem?_eq_some_iff.1 HX20.out).1).trans HX20.out)
    have HX22 := Lib.hid (setRow_heap w21 w13.heap.size _ #[.int .i64 1, .slice A21 ([] : List (List Int)).length c21] 26 (0, 0) HX21.out)
    have HB22 := Lib.hid (below_setRow HB21.out HL14.out #[.int .i64 1, .slice A21 ([] : List (List Int)).length c21])
    clear hb hbb HX20 HB20 HTB HL3 HB21
    go_wp2_with ((with_reducible refine wpList_selStore 26 10 110 ?_); refine wpList_skip rfl (r_store40 (.tmp 10) (.tmp 110) rfl w13.heap.size _ #[.int .i64 1, .slice A21 ([] : List (List Int)).length c21] rfl rfl HX21.out rfl rfl (one40 _ _ _ _)) ?_)
    generalize hw22 : w21.setRow w13.heap.size #[.int .i64 1, .slice A21 ([] : List (List Int)).length c21] = w22 at *
    have hsz : w22.heap.size = w21.heap.size := by rw [← hw22, World.setRow]; simp
    clear hw22 HX21
    have h1 := ints_new (w := w22) (xs := [1, 1]) (by decide) rfl (by simp) (n := 2)
    have hb1 := HL.out (w22.alloc (.cells (ints [1, 1]).toArray 3)) [0, 0]
    have h2 := ints_new (w := w22.alloc (.cells (ints [1, 1]).toArray 3)) (xs := [0, 0]) (by decide) rfl (by simp) (n := 2)
    have h3 := tab_two _ _ _ _ _ (h1.below hb1) h2 (e := 22)
    have hb0 : Below w22.heap.size w22 (((w22.alloc (.cells (ints [1, 1]).toArray 3)).alloc (.cells (ints [0, 0]).toArray 3)).alloc (.cells #[.slice (some ⟨w22.heap.size, 0, none⟩) 2 2, .slice (some ⟨(w22.alloc (.cells (ints [1, 1]).toArray 3)).heap.size, 0, none⟩) 2 2] 22)) :=
      (((Below.refl _ _).alloc (Nat.le_refl _) _).alloc (by simp) _).alloc (by simp; omega) _
    simp only [World.size_alloc, hsz] at h3 hb0
    have HC := Lib.hid ((count16_any _ _ 1 [[1, 1], [0, 0]] h3).mono fun e w' (⟨a, b⟩ : _ ∧ _) => by rw [known_n.1, known_n.2] at a; exact (⟨a, b⟩ : e = .returned (.tuple #[.int .i64 1, .int .i64 0]) ∧ _))
    have HL3 := Lib.hid hb0
    have HSZ := Lib.hid hsz
    clear h1 hb1 h2 h3 hb0 hsz
    go_wp2_with fail
    refine HC.out.mono ?_
    rintro e w23 ⟨rfl, hb⟩
    have hbb := HL3.out.trans (hb.mono (by have := HL3.out.size; rw [HSZ.out] at this; exact this))
    have HB23 := Lib.hid (HB22.out.trans (hbb.mono (by rw [← HSZ.out]; exact HB22.out.size)))
    have HX23 := Lib.hid ((hbb.block _ (by rw [← HSZ.out]; exact (Array.getElem?_eq_some_iff.1 HX22.out).1)).trans HX22.out)
    clear hb hbb HC HL3 HB22 HX22
    go_wp2_with fail
    refine (half27_any _).mono ?_
    rintro e w24 ⟨⟨u24, rfl, hu⟩, hb⟩
    obtain ⟨A24, c24, rfl⟩ := Tab.form hu
    have HU24 := Lib.hid hu
    have HX24 := Lib.hid ((hb.block _ (Array.getElem?_eq_some_iff.1 HX23.out).1).trans HX23.out)
    have HB24 := Lib.hid (HB23.out.trans (hb.mono HB23.out.size))
    clear hu hb HB23 HX23
    go_wp2_with fail
    refine (H20.out _ _ _ 2 [] [] 2 known_g HU24.out intsAt_nil).mono ?_
    rintro e w25 ⟨⟨A25, c25, rfl, -⟩, hb⟩
    have HX25 := Lib.hid ((hb.block _ (Array.getElem?_eq_some_iff.1 HX24.out).1).trans HX24.out)
    have HB25 := Lib.hid (HB24.out.trans (hb.mono HB24.out.size))
    clear hb HB24 HX24 HU24
    go_wp2_with fail
    refine (awake15_any _).mono ?_
    rintro e w26 ⟨rfl, hb⟩
    have HX26 := Lib.hid ((hb.block _ (Array.getElem?_eq_some_iff.1 HX25.out).1).trans HX25.out)
    have HB26 := Lib.hid (HB25.out.trans (hb.mono HB25.out.size))
    clear hb HB25 HX25
    go_wp2_with (first
      | ((with_reducible refine wpList_sel 136 ?_); refine wpList_valG (by rfl) (r_loadAt 26 (.tmp 10) _ _ rfl rfl (load40 HX26.out)) ?_)
      | ((with_reducible refine wpList_sel 137 ?_); refine wpList_valG (by rfl) (r_build40m (.const (.int .i64 1)) 1 rfl rfl) ?_)
      | (go_at_call 19; (refine (same26_yes _ _ _ 1 [] (tab_empty HT21.out) tab_nil).mono ?_); rintro e w27 ⟨rfl, hb⟩; have HB27 := Lib.hid (HB26.out.trans (hb.mono HB26.out.size)); clear hb))
    go_ret
    exact ⟨rfl, HB27.out⟩
end Go.Proofs
namespace Go.Proofs
open Go.RowKit Go.Shelf Go.Proofs.Ct Go.Maps
def traceE (g : Int) (t : Tb) (r : Int) (ws : List Int) : Int × Bool :=
  if (check g t).1 ≠ 0 then (0, false) else
  if r < 0 ∨ (t.length : Int) ≤ r then (0, false) else
  if (ws.any (letBad g.toNat)) = true then (0, false) else
  (if leads t r ws < 0 then 0 else leads t r ws, decide (0 ≤ leads t r ws))
def TracePostE (g : Int) (t : Tb) (r : Int) (ws : List Int) (w : World) (e : Ending) (w' : World) : Prop :=
  e = .returned (.tuple #[.int .i64 (traceE g t r ws).1, .bool (traceE g t r ws).2]) ∧ Below w.heap.size w w'
set_option maxRecDepth 100000 in
set_option maxHeartbeats 1000000 in
theorem trace40_any (w : World) (v u : Value) (g : Int) (t : Tb) (r : Int) (ws : List Int) (ht : Tab w v t) (hu : IntsAt w u ws) : Calls Tryz.prog 10 #[.int .i64 g, v, .int .i64 r, u] w (TracePostE g t r ws w) := by
  have HC := Lib.hid (check43_any w v g t ht)
  have HT := Lib.hid ht
  have HU := Lib.hid hu
  obtain ⟨A, c, rfl, hc1, hc2, hc⟩ := ht.open_
  obtain ⟨Au, cu, rfl, -, -, -⟩ := hu.open_
  clear hc ht hu
  unfold TracePostE
  by_cases h1 : (check g t).1 = 0
  · obtain ⟨h0, hg, -⟩ := check_good h1
    obtain ⟨gn, rfl⟩ : ∃ n : Nat, g = n := ⟨g.toNat, by omega⟩
    rw [Int.toNat_natCast] at hg
    have hck := check_of_good hg
    have HC' : Hid (Calls Tryz.prog 29 #[.int .i64 (gn : Int), .slice A t.length c] w fun e w' => e = .returned (.tuple #[.int .i64 0, .int .i64 (-1)]) ∧ Below w.heap.size w w') := Lib.hid (HC.out.mono fun e w' ⟨h2, h3⟩ => by rw [hck] at h2; exact ⟨h2, h3⟩)
    have hg16 := hg.g16
    by_cases h2 : r < 0
    · have HE : Hid (traceE (gn : Int) t r ws = (0, false)) := Lib.hid (by unfold traceE; rw [if_neg (by omega), if_pos (.inl h2)])
      clear HC h1 h0 hck hg HT HU
      generalize traceE (gn : Int) t r ws = X at *
      go_enter Tryz.func10, Tryz.ntmps10
      go_wp2_with (go_at_call 29; (refine HC'.out.mono ?_); rintro e w' ⟨rfl, hb⟩; have HB := Lib.hid hb; clear hb)
      go_ret2
      exact ⟨ret_ib (by rw [HE.out]) (by rw [HE.out]), HB.out⟩
    · by_cases h3 : (t.length : Int) ≤ r
      · have HE : Hid (traceE (gn : Int) t r ws = (0, false)) := Lib.hid (by unfold traceE; rw [if_neg (by omega), if_pos (.inr h3)])
        clear HC h1 h0 hck hg HT HU
        generalize traceE (gn : Int) t r ws = X at *
        go_enter Tryz.func10, Tryz.ntmps10
        go_wp2_with (go_at_call 29; (refine HC'.out.mono ?_); rintro e w' ⟨rfl, hb⟩; have HB := Lib.hid hb; clear hb)
        go_ret2
        exact ⟨ret_ib (by rw [HE.out]) (by rw [HE.out]), HB.out⟩
      · obtain ⟨rn, rfl⟩ : ∃ n : Nat, r = n := ⟨r.toNat, by omega⟩
        have hr : rn < t.length := by omega
        have HF : Hid (∀ w', Below w.heap.size w w' → Calls Tryz.prog 30 #[.int .i64 (gn : Int), .slice Au ws.length cu] w' fun e w'' => e = .returned (.bool (!(ws.any (letBad gn)))) ∧ Below w'.heap.size w' w'') := Lib.hid fun w' hb => fine83_any w' gn _ ws hg16 (kept_ints.below HU.out hb)
        by_cases h4 : ws.any (letBad gn) = true
        · have HE : Hid (traceE (gn : Int) t (rn : Int) ws = (0, false)) := Lib.hid (by unfold traceE; rw [if_neg (by omega), if_neg (by omega), if_pos (by simpa using h4)])
          rw [h4] at HF
          clear HC h1 h0 hck hg HT HU h4
          generalize traceE (gn : Int) t (rn : Int) ws = X at *
          go_enter Tryz.func10, Tryz.ntmps10
          go_wp2_with (first
            | (go_at_call 29; (refine HC'.out.mono ?_); rintro e w' ⟨rfl, hb⟩; have HB := Lib.hid hb; clear hb)
            | (go_at_call 30; (refine (HF.out _ HB.out).mono ?_); rintro e w' ⟨rfl, hb⟩; have HB2 := Lib.hid (HB.out.trans (hb.mono HB.out.size)); clear hb))
          go_ret2
          exact ⟨ret_ib (by rw [HE.out]) (by rw [HE.out]), HB2.out⟩
        · have h4' : ws.any (letBad gn) = false := by simpa using h4
          have HE : Hid (traceE (gn : Int) t (rn : Int) ws = (if leads t rn ws < 0 then 0 else leads t rn ws, decide (0 ≤ leads t rn ws))) := Lib.hid (by unfold traceE; rw [if_neg (by omega), if_neg (by omega), if_neg (by simpa using h4)])
          have HW : Hid (∀ w', Below w.heap.size w w' → Calls Tryz.prog 31 #[.slice A t.length c, .int .i64 (rn : Int), .slice Au ws.length cu] w' (TracePost (leads t rn ws) w')) := Lib.hid fun w' hb => trace94_any w' _ _ gn t rn ws (kept_tab.below HT.out hb) (kept_ints.below HU.out hb) hg (letsOk_of h4') hr
          rw [h4'] at HF
          unfold TracePost at HW
          rw [HE.out]
          clear HC h1 h0 hck hg HT HU h4 h4' HE
          generalize leads t rn ws = l at *
          generalize decide (0 ≤ l) = y at *
          generalize (if l < 0 then 0 else l) = x at *
          go_enter Tryz.func10, Tryz.ntmps10
          go_wp2_with (first
            | (go_at_call 29; (refine HC'.out.mono ?_); rintro e w' ⟨rfl, hb⟩; have HB := Lib.hid hb; clear hb)
            | (go_at_call 30; (refine (HF.out _ HB.out).mono ?_); rintro e w' ⟨rfl, hb⟩; have HB2 := Lib.hid (HB.out.trans (hb.mono HB.out.size)); clear hb)
            | (go_at_call 31; (refine (HW.out _ HB2.out).mono ?_); rintro e w' ⟨rfl, q, rfl⟩))
          go_ret2
          exact ⟨rfl, below_drewN HB2.out q⟩
  · have HE : Hid (traceE g t r ws = (0, false)) := Lib.hid (by unfold traceE; rw [if_pos h1])
    have hx : ((check g t).1 != 0) = true := by simpa using h1
    unfold CheckPost at HC
    clear HT HU h1
    generalize traceE g t r ws = X at *
    generalize (check g t).1 = e1 at *
    generalize (check g t).2 = e2 at *
    go_enter Tryz.func10, Tryz.ntmps10
    go_wp2_with (go_at_call 29; (refine HC.out.mono ?_); rintro e w' ⟨rfl, hb⟩; have HB := Lib.hid hb; clear hb)
    go_ret2
    exact ⟨ret_ib (by rw [HE.out]) (by rw [HE.out]), HB.out⟩
end Go.Proofs
namespace Go.Proofs
open Go.RowKit Go.Shelf Go.Proofs.Ct Go.Maps
structure ImgS (w0 wr : World) (B g : Nat) (f : Nat → List Int) (vs : Nat → Value) : Prop where
  below : Below w0.heap.size w0 wr
  ge : w0.heap.size ≤ B
  blk : ∃ C, wr.heap[B]? = some (.cells C 22 (0, 0)) ∧ ∀ c, c < g → C[c]? = some (vs c)
  row : ∀ c, c < g → OwnI w0.heap.size wr (vs c) (f c)
  ap : ∀ c d, c < g → d < g → c ≠ d → ∀ r, (vs c).ownBlock = some r → (vs d).ownBlock ≠ some r
section
variable {w0 wr : World} {B g : Nat} {f : Nat → List Int} {vs : Nat → Value}
end
end Go.Proofs
namespace Go.Proofs
open Go.RowKit Go.Shelf Go.Proofs.Ct Go.Maps
theorem bl3 {a b c : World} (h1 : Below a.heap.size a b) (h2 : Below b.heap.size b c) : Below a.heap.size a c := h1.trans (h2.mono h1.size)
theorem traceK (g : Int) (t : Tb) (r : Int) (ws : List Int) (a : Int) (b : Bool) (h : traceE g t r ws = (a, b)) (W : World) (v u : Value) (ht : Tab W v t) (hu : IntsAt W u ws) : Calls Tryz.prog 10 #[.int .i64 g, v, .int .i64 r, u] W fun e w' => e = .returned (.tuple #[.int .i64 a, .bool b]) ∧ Below W.heap.size W w' :=
  (trace40_any W v u g t r ws ht hu).mono fun e w' (⟨h5, h7⟩ : TracePostE g t r ws W e w') => by
    rw [h] at h5
    exact ⟨h5, h7⟩
end Go.Proofs
namespace Go.Proofs
open Go.RowKit Go.Shelf Go.Proofs.Ct Go.Maps
def IntsB (base : Nat) (w : World) (u : Value) (x : List Int) : Prop := ∀ w' : World, (∀ k, base ≤ k → k < w.heap.size → w'.heap[k]? = w.heap[k]?) → IntsAt w' u x
section
variable {base : Nat} {w w' : World} {u : Value} {x : List Int}
theorem IntsB.at_ (h : IntsB base w u x) : IntsAt w u x := h w fun _ _ _ => rfl
theorem IntsB.below (h : IntsB base w u x) (hb : Below w.heap.size w w') : IntsB base w' u x := fun w'' h'' => h w'' fun k h1 h2 => (h'' k h1 (Nat.lt_of_lt_of_le h2 hb.size)).trans (hb.block k h2)
theorem IntsB.own {b2 : Nat} (h : OwnI b2 w u x) (hf : Fits x) (hb : base ≤ b2) : IntsB base w u x := fun w' hw => OwnI.ints (owns_keep h fun r hr => by
  obtain ⟨h1, C, hC⟩ := owns_block h r hr
  exact hw r (by omega) (Array.getElem?_eq_some_iff.1 hC).1) hf
theorem IntsB.lit (w : World) (x : List Int) (hf : Fits x) {n : Nat} (hn : x.length = n) (hm : n ≤ 1000) (hb : base ≤ w.heap.size) : IntsB base (w.alloc (.cells (ints x).toArray 3)) (.slice (some ⟨w.heap.size, 0, none⟩) n n) x := fun w' hw =>
  ints_blk ((hw w.heap.size hb (by simp)).trans (heap_alloc_new w _)) hf hn hm
theorem TabB.lit (w : World) (us : List Value) (xs : List W) {e : TypeId} {n : Nat} (hn : us.length = n) (hl : us.length = xs.length) (hm : us.length ≤ 1000) (hb : base ≤ w.heap.size) (h : ∀ i, i < xs.length → IntsB base w (us.getD i undef) (xs.getD i [])) :
    TabB base (w.alloc (.cells us.toArray e)) (.slice (some ⟨w.heap.size, 0, none⟩) n n) xs := fun w' hw =>
  tab_blk ((hw w.heap.size hb (by simp)).trans (heap_alloc_new w _)) hn hl hm fun i hi => (h i hi).below ((Below.refl _ _).alloc (Nat.le_refl _) _) w' hw
end
def knownT : Nat → Int × List W × Int
  | 0 => (1, [powW [1] 7], 7)
  | 1 => (2, [powW [1] 2, powW [2] 2, powW [1, 2] 5], 10)
  | 2 => (2, [powW [1] 2, powW [2] 3, powW [1, 2] 3], 12)
  | 3 => (2, [powW [1] 2, powW [2] 3, powW [1, 2] 4], 24)
  | 4 => (2, [powW [1] 2, powW [2] 3, powW [1, 2] 5], 60)
  | 5 => (2, [powW [1] 4, [1, 1, -2, -2], [-2, 1, 2, 1]], 8)
  | 6 => (2, [powW [1] 3, powW [2] 3, powW [1, 2] 3, powW [1, -2] 3], 27)
  | 7 => (2, [powW [1] 4, powW [2] 6, [-1, -2, 1, 2]], 24)
  | 8 => (3, [powW [1] 2, powW [2] 2, [3, 3], powW [1, 2] 3, powW [2, 3] 3, powW [1, 3] 2], 24)
  | 9 => (2, [powW [1] 2, powW [2] 3, powW [1, 2] 7, powW [-1, -2, 1, 2] 4], 168)
  | 10 => (2, [[-2, 1, 2, -1, -1], [-1, 2, 1, -2, -2]], 1)
  | 11 => (3, [powW [1] 2, powW [2] 2, [3, 3], [-1, -2, 1, 2], [-1, -3, 1, 3], [-2, -3, 2, 3]], 8)
  | 12 => (2, [powW [1] 5, powW [2] 4, [-2, 1, 2, -1, -1]], 20)
  | _ => (2, [powW [1] 7, powW [2] 3, [-2, 1, 2, -1, -1]], 21)
def KnownPost (g : Int) (rels : List W) (n : Int) (w : World) (e : Ending) (w' : World) : Prop := (∃ A c, e = .returned (.tuple #[.agg #[.int .i64 g, .slice A rels.length c], .int .i64 n]) ∧ TabB (w.heap.size + 1) w' (.slice A rels.length c) rels) ∧ Below w.heap.size w w'
theorem powerK (w : World) (v : Value) (x : List Int) (n L : Nat) (h : IntsAt w v x) (hn : n ≤ 1000) (hx : x.length ≤ 100) (hL : (powW x n).length = L) : Calls Tryz.prog 39 #[v, .int .i64 (n : Int)] w fun e w' => ∃ A c, e = .returned (.slice A L c) ∧ OwnI w.heap.size w' (.slice A L c) (powW x n) ∧ Below w.heap.size w w' := by
  subst hL
  exact power112_any w v x n h hn hx
structure KS (w W : World) : Prop where
  below : Below w.heap.size w W
  box : W.heap[w.heap.size]? = some (.cells zero40 26 (0, 0))
theorem KS.lt {w W : World} (h : KS w W) : w.heap.size + 1 ≤ W.heap.size := (Array.getElem?_eq_some_iff.1 h.box).1
theorem KS.below' {w W W' : World} (h : KS w W) (hb : Below W.heap.size W W') : KS w W' := ⟨h.below.trans (hb.mono h.below.size), (hb.block _ h.lt).trans h.box⟩
theorem known_start (w W : World) (h : W = ((((w.alloc (.cells zero40 26)).alloc (.cells (ints [1]).toArray 3)).alloc (.cells (ints [2]).toArray 3)).alloc (.cells (ints [1, 2]).toArray 3)).alloc (.cells (ints [-1, -2, 1, 2]).toArray 3)) :
    KS w W ∧ IntsB (w.heap.size + 1) W (.slice (some ⟨w.heap.size + 1, 0, none⟩) 1 1) [1] ∧ IntsB (w.heap.size + 1) W (.slice (some ⟨w.heap.size + 1 + 1, 0, none⟩) 1 1) [2] ∧ IntsB (w.heap.size + 1) W (.slice (some ⟨w.heap.size + 1 + 1 + 1, 0, none⟩) 2 2) [1, 2] ∧ IntsB (w.heap.size + 1) W (.slice (some ⟨w.heap.size + 1 + 1 + 1 + 1, 0, none⟩) 4 4) [-1, -2, 1, 2] := by
  subst h
  have hb : ∀ (V : World) (o : Obj), Below V.heap.size V (V.alloc o) := fun V o => (Below.refl _ _).alloc (Nat.le_refl _) _
  have s0 : KS w (w.alloc (.cells zero40 26)) := ⟨hb _ _, heap_alloc_new w _⟩
  have s1 := s0.below' (hb _ (.cells (ints [1]).toArray 3))
  have s2 := s1.below' (hb _ (.cells (ints [2]).toArray 3))
  have s3 := s2.below' (hb _ (.cells (ints [1, 2]).toArray 3))
  have s4 := s3.below' (hb _ (.cells (ints [-1, -2, 1, 2]).toArray 3))
  have f4 := (((IntsB.lit (base := w.heap.size + 1) _ [1] (fits_lit (by decide)) (n := 1) rfl (by omega) s0.lt).below (hb _ (.cells (ints [2]).toArray 3))).below (hb _ (.cells (ints [1, 2]).toArray 3))).below (hb _ (.cells (ints [-1, -2, 1, 2]).toArray 3))
  have f5 := ((IntsB.lit (base := w.heap.size + 1) _ [2] (fits_lit (by decide)) (n := 1) rfl (by omega) s1.lt).below (hb _ (.cells (ints [1, 2]).toArray 3))).below (hb _ (.cells (ints [-1, -2, 1, 2]).toArray 3))
  have f6 := (IntsB.lit (base := w.heap.size + 1) _ [1, 2] (fits_lit (by decide)) (n := 2) rfl (by omega) s2.lt).below (hb _ (.cells (ints [-1, -2, 1, 2]).toArray 3))
  have f7 := IntsB.lit (base := w.heap.size + 1) _ [-1, -2, 1, 2] (fits_lit (by decide)) (n := 4) rfl (by omega) s3.lt
  simp only [World.size_alloc] at f4 f5 f6 f7
  exact ⟨s4, f4, f5, f6, f7⟩
theorem known_end {w W : World} (h : KS w W) {us : List Value} {xs : List (List Int)} {n : Nat} (hn : us.length = n) (hl : xs.length = n) (hr : ∀ i, i < n → IntsB (w.heap.size + 1) W (us.getD i undef) (xs.getD i [])) (hm : n ≤ 1000) (g : Int) :
    (W.alloc (.cells us.toArray 39)).heap[w.heap.size]? = some (.cells zero40 26 (0, 0)) ∧
      TabB (w.heap.size + 1) ((W.alloc (.cells us.toArray 39)).setRow w.heap.size #[.int .i64 g, .slice (some ⟨W.heap.size, 0, none⟩) n n]) (.slice (some ⟨W.heap.size, 0, none⟩) xs.length n) xs ∧
      Below w.heap.size w ((W.alloc (.cells us.toArray 39)).setRow w.heap.size #[.int .i64 g, .slice (some ⟨W.heap.size, 0, none⟩) n n]) := by
  have hb : Below W.heap.size W (W.alloc (.cells us.toArray 39)) := (Below.refl _ _).alloc (Nat.le_refl _) _
  have h2 := h.below' hb
  refine ⟨h2.box, ?_, below_setRow h2.below (Nat.le_refl _) _⟩
  rw [hl]
  exact (TabB.lit W us xs hn (by omega) (by omega) h.lt (fun i hi => hr i (by omega))).keep (by rw [World.setRow]; simp) fun k hk _ => setRow_other _ _ k _ (by omega)
end Go.Proofs
