/- The reference's system: tree; The reference's system in memory: its box, its rows of numbers; The reference's system under construction; The reference's Of at a standard table; The reference's word of a pair; Count; The reference's Count and Generators. -/
import Derived.Test.YtcfighimnkfmeaaZ13
namespace Go.Proofs
open Go.RowKit Go.Shelf Go.Proofs.Ct Go.Maps

theorem box_cells5 {w : World} {b : Nat} {v0 v1 v2 v3 v4 : Value} {e : TypeId} (hc : w.heap[b]? = some (.cells #[v0, v1, v2, v3, v4] e (0, 0))) : w.cell? ⟨b, 0, none⟩ = some v0 ∧ w.cell? ⟨b, 1, none⟩ = some v1 ∧ w.cell? ⟨b, 2, none⟩ = some v2 ∧ w.cell? ⟨b, 3, none⟩ = some v3 ∧ w.cell? ⟨b, 4, none⟩ = some v4 :=
  ⟨by rw [cell_of_row _ _ _ _ _ _ hc]; rfl, by rw [cell_of_row _ _ _ _ _ _ hc]; rfl, by rw [cell_of_row _ _ _ _ _ _ hc]; rfl, by rw [cell_of_row _ _ _ _ _ _ hc]; rfl, by rw [cell_of_row _ _ _ _ _ _ hc]; rfl⟩
theorem nt_not (t : Tb) (R : List W) (r g : Nat) : (!(nt t R r g)) = (decide (R.getD (dest t r g) [] = R.getD r [] ++ [((g + 1 : Nat) : Int)]) || decide (R.getD r [] = R.getD (dest t r g) [] ++ [-((g + 1 : Nat) : Int)])) := by
  unfold nt
  rw [Bool.not_and, Bool.not_not, Bool.not_not]

set_option maxRecDepth 100000 in
set_option maxHeartbeats 1000000 in
theorem tree115_any (w : World) (vt vr : Value) (A1 : Option Addr) (n1 c1 : Nat) (G m : Int) (t : Tb) (R : List (List Int)) (r g : Nat) (ht : Tab w vt t) (hR : Tab w vr R) (hRl : R.length = t.length) (hr : r < t.length) (hd : t.at r (2 * g) = (dest t r g : Int) ∧ dest t r g < t.length)
    (hc : 2 * g < (t.row r).length) (hb : ∀ j, (R.getD j []).length ≤ 100000) (hg : g ≤ 100) :
    Calls Try.prog 115 #[.agg #[.int .i64 G, vt, vr, .slice A1 n1 c1, .int .i64 m], .int .i64 (r : Int), .int .i64 ((g : Int) + 1)] w fun e w' => e = .returned (.bool (!(nt t R r g))) ∧ Below w.heap.size w w' := by
  obtain ⟨A0, c0, rfl, h1, h2, h3⟩ := ht.open_
  obtain ⟨bt, ot, rfl, h4⟩ := h3 (by omega)
  obtain ⟨u, hu, hI⟩ := h4 r hr
  have hI2 : IntsAt w u (t.row r) := hI
  obtain ⟨Au, cu, rfl, hu1, hu2, huc⟩ := hI2.open_
  obtain ⟨bu, ou, rfl, huc'⟩ := huc (by omega)
  have hcc := huc' (2 * g) hc
  have hat : (t.row r).getD (2 * g) 0 = t.at r (2 * g) := rfl
  rw [hat, hd.1] at hcc
  obtain ⟨Ar, cr, rfl⟩ := Tab.form hR
  have hb1 : bt < w.heap.size := World.block_lt_of_cell? w _ hu
  have hb2 : bu < w.heap.size := World.block_lt_of_cell? w _ hcc
  have hbel : Below w.heap.size w (w.alloc (.cells #[.int .i64 G, .slice (some ⟨bt, ot, none⟩) t.length c0, .slice Ar R.length cr, .slice A1 n1 c1, .int .i64 m] 99)) := (Below.refl _ _).alloc (Nat.le_refl _) _
  have hu' := (hbel.cell (p := ⟨bt, ot + r, none⟩) hb1).trans hu
  have hcc' := (hbel.cell (p := ⟨bu, ou + 2 * g, none⟩) hb2).trans hcc
  have hnew := heap_alloc_new w (.cells #[.int .i64 G, .slice (some ⟨bt, ot, none⟩) t.length c0, .slice Ar R.length cr, .slice A1 n1 c1, .int .i64 m] 99)
  have hlt : w.heap.size < (w.alloc (.cells #[.int .i64 G, .slice (some ⟨bt, ot, none⟩) t.length c0, .slice Ar R.length cr, .slice A1 n1 c1, .int .i64 m] 99)).heap.size := by simp
  have HBX := Lib.hid (fun W (h : Below (w.alloc (.cells #[.int .i64 G, .slice (some ⟨bt, ot, none⟩) t.length c0, .slice Ar R.length cr, .slice A1 n1 c1, .int .i64 m] 99)).heap.size (w.alloc (.cells #[.int .i64 G, .slice (some ⟨bt, ot, none⟩) t.length c0, .slice Ar R.length cr, .slice A1 n1 c1, .int .i64 m] 99)) W) => box_cells5 ((h.block _ hlt).trans hnew))
  have HF1 : Hid (∀ W, Below w.heap.size w W → Calls Try.prog 144 #[.agg #[.int .i64 G, .slice (some ⟨bt, ot, none⟩) t.length c0, .slice Ar R.length cr, .slice A1 n1 c1, .int .i64 m], .int .i64 (r : Int), .int .i64 ((g : Int) + 1), .int .i64 (dest t r g : Int)] W fun e w' => e = .returned (.bool (decide (R.getD (dest t r g) [] = R.getD r [] ++ [((g + 1 : Nat) : Int)]))) ∧ Below W.heap.size W w') :=
    Lib.hid fun W h => follows144_any W _ _ A1 _ c0 n1 c1 G m R r (dest t r g) (((g + 1 : Nat) : Int)) (kept_tab.below hR h) (by omega) (by omega) hb
  have HF2 : Hid (∀ W, Below w.heap.size w W → Calls Try.prog 144 #[.agg #[.int .i64 G, .slice (some ⟨bt, ot, none⟩) t.length c0, .slice Ar R.length cr, .slice A1 n1 c1, .int .i64 m], .int .i64 (dest t r g : Int), .int .i64 (-((g : Int) + 1)), .int .i64 (r : Int)] W fun e w' => e = .returned (.bool (decide (R.getD r [] = R.getD (dest t r g) [] ++ [-((g + 1 : Nat) : Int)]))) ∧ Below W.heap.size W w') :=
    Lib.hid fun W h => follows144_any W _ _ A1 _ c0 n1 c1 G m R (dest t r g) r (-((g + 1 : Nat) : Int)) (kept_tab.below hR h) (by omega) (by omega) hb
  have HNT := Lib.hid (nt_not t R r g)
  have HB := Lib.hid hbel
  obtain ⟨z0, z1, z2, z3, z4⟩ := HBX.out _ (Below.refl _ _)
  have hr0 : (0 : Int) ≤ (r : Int) := Int.natCast_nonneg _
  have hr1 : (r : Int) < (t.length : Int) := by omega
  have hg0 : (0 : Int) ≤ (g : Int) := Int.natCast_nonneg _
  have hg1 : (g : Int) ≤ 100 := by omega
  have hc0 : 2 * ((g : Int) + 1) - 2 = ((2 * g : Nat) : Int) := by omega
  have hc1 : ((2 * g : Nat) : Int) < ((t.row r).length : Int) := by omega
  have hc2 : (0 : Int) ≤ ((2 * g : Nat) : Int) := by omega
  clear h3 h4 hI hI2 huc huc' ht hR hbel hat hnew hlt hcc hu hd hb hc hRl
  generalize dest t r g = to at *
  generalize (!(nt t R r g)) = res at *
  generalize 2 * g = g2 at *
  generalize decide (R.getD r [] = R.getD to [] ++ [-((g + 1 : Nat) : Int)]) = b2 at *
  generalize hB1 : decide (R.getD to [] = R.getD r [] ++ [((g + 1 : Nat) : Int)]) = b1 at *
  clear hB1
  cases b1 with
  | true =>
    go_enter Try.func115, Try.ntmps115
    go_wp2_with (go_at_call 144; (refine (HF1.out _ HB.out).mono ?_); rintro e w2 ⟨rfl, hb⟩
                 have HB2 := Lib.hid (HB.out.trans (hb.mono HB.out.size))
                 clear hb)
    go_ret
    exact ⟨ret_bool (by rw [HNT.out]; rfl), HB2.out⟩
  | false =>
    have tok0 : Hid True := Lib.hid trivial
    go_enter Try.func115, Try.ntmps115
    go_wp2_with (first
      | (clear tok0; go_at_call 144; (refine (HF1.out _ HB.out).mono ?_); rintro e w2 ⟨rfl, hb⟩
         have HB2 := Lib.hid (HB.out.trans (hb.mono HB.out.size))
         obtain ⟨y0, y1, y2, y3, y4⟩ := HBX.out _ hb
         clear hb)
      | (go_at_call 144; (refine (HF2.out _ HB2.out).mono ?_); rintro e w3 ⟨rfl, hb⟩
         have HB3 := Lib.hid (HB2.out.trans (hb.mono HB2.out.size))
         clear hb))
    go_ret
    exact ⟨ret_bool (by rw [HNT.out]; rfl), HB3.out⟩
end Go.Proofs
namespace Go.Proofs
open Go.RowKit Go.Shelf Go.Proofs.Ct Go.Maps

def zero99 : Array Value := #[.int .i64 0, .slice none 0 0, .slice none 0 0, .slice none 0 0, .int .i64 0]
theorem build99z (w : World) : (Instr.build 99 #[]).run Try.prog w = .ok (.agg zero99) w := by kernel_rfl
theorem alloc99 (w : World) : (Instr.alloc 99 true (.tuple #[])).run Try.prog w = .ok (.pointer (some ⟨w.heap.size, 0, none⟩)) (w.alloc (.cells zero99 99)) := by kernel_rfl
theorem info99s : (Try.prog.info? 99).map (·.size) = some 5 := by kernel_rfl
theorem zero99_one : zero99.all (·.oneCell') = true := by simp [zero99, Value.oneCell']
theorem one99 (A B C : Option Addr) (n m q a b d : Nat) (x y : Int) : (#[Value.int .i64 x, .slice A n a, .slice B m b, .slice C q d, .int .i64 y] : Array Value).all (·.oneCell') = true := by simp [Value.oneCell']
section
variable {o : Oper} {a : Act} {w w' : World} {n : Nat} {v : Value}
theorem r_store99 (x y : Operand) (ho : o.op = .store 99 x y) (g : Nat) (old c' : Array Value) (hx : a.eval x = .pointer (some ⟨g, 0, none⟩)) (hy : a.eval y = .agg c') (hg : w.heap[g]? = some (.cells old 99 (0, 0)))
    (hi : c'.size = 5) (hoo : old.size = 5) (h1 : c'.all (·.oneCell') = true) : (execOp a.eval o).run Try.prog w = .ok .skip (w.setRow g c') := by
  unfold execOp
  simp only [ho, hx, hy, Instr.storeAt, Instr.sureAddr, Sem.run_bind, Sem.run_pure, Result.andThen_ok, run_storeVar_row w g 99 99 old c' hg (by rw [hi]; exact info99s) (by rw [hi, hoo]) h1]
theorem r_build99 (ho : o.op = .build 99 #[]) : (execOp a.eval o).run Try.prog w = .ok (.value (.agg zero99)) w := by
  have hb := build99z w
  unfold execOp
  simp only [ho, List.map_toArray, List.map_nil, Sem.run_bind, hb, Result.andThen_ok]
  rfl
theorem r_alloc99 (ho : o.op = .alloc 99) : (execOp a.eval o).run Try.prog w = .ok (.value (.pointer (some ⟨w.heap.size, 0, none⟩))) (w.alloc (.cells zero99 99)) := by
  have hb := alloc99 w
  unfold execOp
  simp only [ho, Sem.run_bind, hb, Result.andThen_ok]
  rfl
theorem load99 {w : World} {b : Nat} {v0 v1 v2 v3 v4 : Value} (hc : w.heap[b]? = some (.cells #[v0, v1, v2, v3, v4] 99 (0, 0))) : (Instr.loadAt 99 (.pointer (some ⟨b, 0, none⟩))).run Try.prog w = .ok (.agg #[v0, v1, v2, v3, v4]) w := by
  have hr : w.rangeAt b 0 [v0, v1, v2, v3, v4] := fun j v hj => by rw [cell_of_row _ _ _ _ _ _ hc, Nat.zero_add]; simpa using hj
  exact run_loadAt_mid (P := Try.prog) w b 0 99 [v0, v1, v2, v3, v4] _ hr Try.underlying99 rfl (by kernel_rfl)
theorem build99 (G : Int) (A B : Option Addr) (n m c d : Nat) (w : World) : (Instr.build 99 #[(0, .int .i64 G), (1, .slice A n c), (2, .slice B m d)]).run Try.prog w = .ok (.agg #[.int .i64 G, .slice A n c, .slice B m d, .slice none 0 0, .int .i64 0]) w := by kernel_rfl
theorem r_build99s (x y z : Operand) (G : Int) (A B : Option Addr) (n m c d : Nat) (ho : o.op = .build 99 #[(0, x), (1, y), (2, z)]) (hx : a.eval x = .int .i64 G) (hy : a.eval y = .slice A n c) (hz : a.eval z = .slice B m d) :
    (execOp a.eval o).run Try.prog w = .ok (.value (.agg #[.int .i64 G, .slice A n c, .slice B m d, .slice none 0 0, .int .i64 0])) w := by
  have hb := build99 G A B n m c d w
  unfold execOp
  simp only [ho, List.map_toArray, List.map_cons, List.map_nil, hx, hy, hz, Sem.run_bind, hb, Result.andThen_ok]
  rfl
end
theorem results_99_tmp {fn : Func} {p q : Tmp} (h : fn.results = #[.cell p 99, .tmp q]) (tmps : Array Value) (w : World) (g : Nat) (cs : Array Value) (u : Value)
    (hp : tmps.getD p undef = .pointer (some ⟨g, 0, none⟩)) (hq : tmps.getD q undef = u) (hg : w.heap[g]? = some (.cells cs 99 (0, 0))) (hs : cs.size = 5) :
    (results fn tmps).run Try.prog w = .ok (.tuple #[.agg cs, u]) w := by
  have hp' : tmps[p]?.getD undef = .pointer (some ⟨g, 0, none⟩) := by simpa using hp
  have hq' : tmps[q]?.getD undef = u := by simpa using hq
  simp [results, h, hp', hq', asAddr, run_loadVar_row w g 99 99 cs (0, 0) _ hg Try.underlying99 rfl (by rw [hs]; exact info99s)]

/-- block b is the numbers x, no more -/
def XE (w : World) (b : Nat) (x : List Int) : Prop := w.heap[b]? = some (.cells (ints x).toArray 3 (0, 0))
theorem XE.set {w : World} {b : Nat} {x : List Int} (h : XE w b x) (k : Nat) (v : Int) : XE (w.setCell ⟨b, k, none⟩ (.int .i64 v)) b (x.set k v) := by
  unfold XE at h ⊢
  have : (ints x).toArray.setIfInBounds k (.int .i64 v) = (ints (x.set k v)).toArray := by simp [ints, List.map_set]
  rw [← this]
  simp [World.setCell, Array.getElem?_modify, h]
theorem XE.own {w : World} {b base : Nat} {x : List Int} (h : XE w b x) (hb : base ≤ b) {n : Nat} (hn : x.length = n) (hm : n ≤ 1000000) : OwnI base w (.slice (some ⟨b, 0, none⟩) n n) x := by
  subst hn
  refine ⟨by simp [ints], .inr ⟨b, x.length, (ints x).toArray, rfl, hb, h, Nat.le_refl _, ?_, by simp [ints], ?_⟩⟩
  · have : x.length ≤ 9223372036854775807 := by omega
    simpa [maxLen] using this
  · simp only [Nat.mul_one]
    exact List.take_of_length_le (by simp [ints])
theorem XE.frozen {w : World} {b : Nat} {x : List Int} (h : XE w b x) (k : Nat) : w.frozen? ⟨b, k, none⟩ = false := by
  simp [World.frozen?, show w.heap[b]? = _ from h]
theorem XE.cell {w : World} {b : Nat} {x : List Int} (h : XE w b x) {k : Nat} (hk : k < x.length) : w.cell? ⟨b, k, none⟩ = some (.int .i64 (x.getD k 0)) := by
  rw [cell_of_row _ _ _ _ _ _ (show w.heap[b]? = _ from h)]
  simp [ints, hk, List.getD_eq_getElem?_getD]
theorem makeE (w : World) (n : Nat) (hn : n ≤ 1000000) : ∃ w', (Instr.makeSlice 24 (.int .i64 (n : Int)) (.int .i64 (n : Int))).run Try.prog w = .ok (.slice (some ⟨w.heap.size, 0, none⟩) n n) w' ∧ XE w' w.heap.size (fillL 0 n) ∧ Below w.heap.size w w' := by
  obtain ⟨i, hi, hz, hs, hb⟩ := info3p
  have h := run_makeSlice (P := Try.prog) w 24 3 i (.int .i64 0) Try.underlying24 hi hz .i64 .i64 n n (by omega) (Int.le_refl _) (by rw [hs]; simp; omega) (by rw [hb]; omega) (by omega)
  simp only [Int.toNat_natCast, hs, Nat.mul_one] at h
  rw [made3] at h
  refine ⟨_, h, ?_, (Below.refl _ _).alloc (Nat.le_refl _) _⟩
  unfold XE
  rw [heap_alloc_new]
  refine congrArg (fun c => some (Obj.cells c 3 (0, 0))) ?_
  apply Array.ext_getElem?
  intro k
  by_cases h : k < n
  · simp [ints, fillL, h]
  · simp [ints, fillL, h]

/-- the numbers of a row, as far as k -/
def rowL (t : Tb) (R : List W) (g r k : Nat) : List Int := (List.range g).map fun j => if j < k then number t R g r j else 0
theorem length_rowL (t : Tb) (R : List W) (g r k : Nat) : (rowL t R g r k).length = g := by simp [rowL]
theorem rowL_zero (t : Tb) (R : List W) (g r : Nat) : rowL t R g r 0 = fillL 0 g := by simp [rowL, fillL]
theorem rowL_set (t : Tb) (R : List W) (g r k : Nat) : (rowL t R g r k).set k (number t R g r k) = rowL t R g r (k + 1) :=
  map_range_set (by simp) fun j _ hne => by
    by_cases h : j < k
    · rw [if_pos h, if_pos (by omega)]
    · rw [if_neg h, if_neg (by omega)]
theorem rowL_tree {t : Tb} {R : List W} {g r k : Nat} (h : nt t R r k = false) : rowL t R g r k = rowL t R g r (k + 1) := by
  unfold rowL
  apply List.map_congr_left
  intro j _
  by_cases e : j = k
  · subst e
    rw [if_neg (by omega), if_pos (by omega)]
    unfold number
    rw [h]
    rfl
  · by_cases hj : j < k
    · rw [if_pos hj, if_pos (by omega)]
    · rw [if_neg hj, if_neg (by omega)]
theorem rowL_get {t : Tb} {R : List W} {g r k j : Nat} (hj : j < g) (hk : j < k) : (rowL t R g r k).getD j 0 = number t R g r j := by
  simp [rowL, List.getD_eq_getElem?_getD, hj, hk]
/-- how many numbers so far -/
def cntL (t : Tb) (R : List W) (g r k : Nat) : Nat := (pairRow t R r k (pairTo t R g r)).length
theorem cntL_tree {t : Tb} {R : List W} {g r k : Nat} (h : nt t R r k = false) : cntL t R g r (k + 1) = cntL t R g r k := by
  unfold cntL pairRow
  rw [foldTo, h]
  rfl
theorem cntL_new {t : Tb} {R : List W} {g r k : Nat} (h : nt t R r k = true) : cntL t R g r (k + 1) = cntL t R g r k + 1 ∧ number t R g r k = ((cntL t R g r k + 1 : Nat) : Int) := by
  have : cntL t R g r (k + 1) = cntL t R g r k + 1 := by
    unfold cntL pairRow
    rw [foldTo, if_pos h]
    simp
  refine ⟨this, ?_⟩
  rw [← this]
  unfold number cntL
  rw [if_pos h]
theorem cntL_row (t : Tb) (R : List W) (g r : Nat) : cntL t R g r g = cntL t R g (r + 1) 0 := by
  unfold cntL
  conv => rhs; unfold pairRow pairTo
  rfl
theorem cntL_bd (t : Tb) (R : List W) (g r k : Nat) : cntL t R g r k ≤ r * g + k := by
  have h1 := (pairRow_length t R r k (pairTo t R g r)).2
  have h2 := pairTo_length t R g r
  unfold cntL
  omega
/-- the rows of numbers -/
def numsTo (t : Tb) (R : List W) (g k : Nat) : List (List Int) := (List.range k).map fun r => rowL t R g r g
theorem length_numsTo (t : Tb) (R : List W) (g k : Nat) : (numsTo t R g k).length = k := by simp [numsTo]
theorem numsTo_succ (t : Tb) (R : List W) (g k : Nat) : numsTo t R g (k + 1) = numsTo t R g k ++ [rowL t R g k g] := by simp [numsTo, List.range_succ]
theorem numsTo_get {t : Tb} {R : List W} {g k r : Nat} (h : r < k) : (numsTo t R g k).getD r [] = rowL t R g r g := by simp [numsTo, List.getD_eq_getElem?_getD, h]
theorem fits_rowL {t : Tb} {R : List W} {g r k : Nat} (hg : g ≤ 16) (hr : r ≤ 20000) : Fits (rowL t R g r k) := fun x hx => by
  simp only [rowL, List.mem_map, List.mem_range] at hx
  obtain ⟨j, hj, rfl⟩ := hx
  have h1 := number_bd t R g r j
  have h2 : r * g ≤ 20000 * 16 := Nat.mul_le_mul hr hg
  split <;> omega
end Go.Proofs
namespace Go.Proofs
open Go.RowKit Go.Shelf Go.Proofs.Ct Go.Maps

structure RowsSt (G : Int) (vt vr : Value) (F : Nat → Prop) (w1 W : World) (vn : Value) (n : Int) (rows : List (List Int)) : Prop where
  st : OutSt 24 F w1 W vn rows
  box : W.heap[w1.heap.size]? = some (.cells #[.int .i64 G, vt, vr, vn, .int .i64 n] 99 (0, 0))
section
variable {G : Int} {vt vr : Value} {F : Nat → Prop} {w1 W : World} {vn : Value} {n : Int} {rows : List (List Int)}
theorem RowsSt.below' {W' : World} (h : RowsSt G vt vr F w1 W vn n rows) (hb : Below W.heap.size W W') : RowsSt G vt vr F w1 W' vn n rows :=
  ⟨h.st.below' hb, (hb.block _ (Array.getElem?_eq_some_iff.1 h.box).1).trans h.box⟩
theorem RowsSt.boxF (h : RowsSt G vt vr F w1 W vn n rows) : ¬ F w1.heap.size ∧ vn.ownBlock ≠ some w1.heap.size := by
  refine ⟨fun hF => ?_, fun e => ?_⟩
  · obtain ⟨-, -, C, hC⟩ := h.st.fs _ hF
    rw [h.box] at hC; cases hC
  · obtain ⟨-, C, hC⟩ := h.st.out.block _ e
    rw [h.box] at hC; cases hC
theorem RowsSt.count (h : RowsSt G vt vr F w1 W vn n rows) (n' : Int) : RowsSt G vt vr F w1 (W.setCell ⟨w1.heap.size, 4, none⟩ (.int .i64 n')) vn n' rows := by
  obtain ⟨h1, h2⟩ := h.boxF
  refine ⟨h.st.grown (grown_setCell W w1.heap.size 4 (.int .i64 n')) (fun r hr => by cases hr; exact ⟨Nat.le_refl _, h1, h2⟩), ?_⟩
  simp [World.setCell, Array.getElem?_modify, h.box]
theorem RowsSt.row {nb k : Nat} {x : List Int} (h : RowsSt G vt vr F w1 W vn n rows) (hx : XE W nb x) (h0 : w1.heap.size ≤ nb) (hF : ¬ F nb) (v : Value) : RowsSt G vt vr F w1 (W.setCell ⟨nb, k, none⟩ v) vn n rows := by
  refine ⟨h.st.grown (grown_setCell W nb k v) (fun r hr => by
    cases hr
    refine ⟨h0, hF, fun e => ?_⟩
    obtain ⟨-, C, hC⟩ := h.st.out.block _ e
    rw [show W.heap[nb]? = _ from hx] at hC; cases hC), (Below.heap_setCell W ⟨nb, k, none⟩ v _ (fun e => ?_)).trans h.box⟩
  have hx' : W.heap[nb]? = _ := hx
  have e' : w1.heap.size = nb := e
  rw [← e', h.box] at hx'
  injection hx' with h5
  injection h5 with _ h6 _
  exact absurd h6 (by decide)
theorem XE.count {nb : Nat} {x : List Int} (h : RowsSt G vt vr F w1 W vn n rows) (hx : XE W nb x) (n' : Int) : XE (W.setCell ⟨w1.heap.size, 4, none⟩ (.int .i64 n')) nb x := by
  refine (Below.heap_setCell W ⟨w1.heap.size, 4, none⟩ (.int .i64 n') _ (fun e => ?_)).trans hx
  have hx' : W.heap[nb]? = _ := hx
  have e' : nb = w1.heap.size := e
  rw [e', h.box] at hx'
  injection hx' with h5
  injection h5 with _ h6 _
  exact absurd h6 (by decide)
theorem RowsSt.done {nb g : Nat} {x : List Int} (h : RowsSt G vt vr F w1 W vn n rows) (hx : XE W nb x) (h0 : w1.heap.size ≤ nb) (hF : ¬ F nb) (hl : x.length = g) (hg : g ≤ 1000000) (hf : Fits x) (hr : rows.length ≤ 1000000) :
    ∃ A' c' W', (Builtin.append_ #[22, 22] 22 #[vn, .slice (some ⟨W.heap.size, 0, none⟩) 1 1]).run Try.prog (W.alloc (.cells #[.slice (some ⟨nb, 0, none⟩) g g] 24)) = .ok (.slice A' (rows.length + 1) c') W' ∧
      (W'.cell? ⟨w1.heap.size, 3, none⟩ = some vn ∧ W'.frozen? ⟨w1.heap.size, 3, none⟩ = false) ∧
      ∃ F', RowsSt G vt vr F' w1 (W'.setCell ⟨w1.heap.size, 3, none⟩ (.slice A' (rows.length + 1) c')) (.slice A' (rows.length + 1) c') n (rows ++ [x]) := by
  have h2 : OutSt2 24 F w1 W vn (.slice (some ⟨nb, 0, none⟩) g g) rows x := ⟨h.st, hx.own h0 hl hg, fun r hr' hF' => hF (by cases hr'; exact hF')⟩
  obtain ⟨A', c', W', hrun, hst, hgr⟩ := h2.done' (t := 22) (by decide) Try.underlying22 info24p hf hr
  have hbx := grown_cells hgr h.box h.boxF.2
  refine ⟨A', c', W', hrun, ⟨(box_cells5 hbx).2.2.2.1, by simp [World.frozen?, hbx]⟩, fun k => F k ∨ (Value.slice (some ⟨nb, 0, none⟩) g g).ownBlock = some k, ?_⟩
  have hR : RowsSt G vt vr (fun k => F k ∨ (Value.slice (some ⟨nb, 0, none⟩) g g).ownBlock = some k) w1 W' vn n rows → True := fun _ => trivial
  have hbF : ¬ (F w1.heap.size ∨ (Value.slice (some ⟨nb, 0, none⟩) g g).ownBlock = some w1.heap.size) ∧ (Value.slice A' (rows.length + 1) c').ownBlock ≠ some w1.heap.size := by
    refine ⟨fun hF' => ?_, fun e => ?_⟩
    · obtain ⟨-, -, C, hC⟩ := hst.fs _ hF'
      rw [hbx] at hC; cases hC
    · obtain ⟨-, C, hC⟩ := hst.out.block _ e
      rw [hbx] at hC; cases hC
  refine ⟨hst.grown (grown_setCell W' w1.heap.size 3 (.slice A' (rows.length + 1) c')) (fun r hr => by cases hr; exact ⟨Nat.le_refl _, hbF.1, hbF.2⟩), ?_⟩
  simp [World.setCell, Array.getElem?_modify, hbx]
theorem RowsSt.first (G : Int) (vt vr : Value) (w1 : World) : RowsSt G vt vr (fun _ => False) w1 ((w1.alloc (.cells zero99 99)).setRow w1.heap.size #[.int .i64 G, vt, vr, .slice none 0 0, .int .i64 0]) (.slice none 0 0) 0 [] :=
  ⟨OutSt.nil 24 (below_boxed (Below.refl _ _) _ _), setRow_heap _ _ _ _ _ _ (heap_alloc_new w1 _)⟩
end

/-- the reference's system, as it reads -/
structure SysR (w : World) (vt vr vn : Value) (t : Tb) (R N : List (List Int)) : Prop where
  tab : Tab w vt t
  reps : Tab w vr R
  nums : Tab w vn N
theorem SysR.below {w w' : World} {vt vr vn : Value} {t : Tb} {R N : List (List Int)} (h : SysR w vt vr vn t R N) (hb : Below w.heap.size w w') : SysR w' vt vr vn t R N :=
  ⟨kept_tab.below h.tab hb, kept_tab.below h.reps hb, kept_tab.below h.nums hb⟩

set_option maxRecDepth 100000 in
set_option maxHeartbeats 1000000 in
theorem of69_bad (w : World) (v : Value) (g : Int) (t : Tb) (ht : Tab w v t) (he : (repsE g t).2 ≠ 0) :
    Calls Try.prog 69 #[.int .i64 g, v] w fun e w' => e = .returned (.tuple #[.agg zero99, .int .i64 (repsE g t).2]) ∧ Below w.heap.size w w' := by
  have hb0 : Below w.heap.size w (w.alloc (.cells zero99 99)) := (Below.refl _ _).alloc (Nat.le_refl _) _
  have HC := Lib.hid (reps51_any _ v g t (kept_tab.below ht hb0))
  have hg0 := heap_alloc_new w (.cells zero99 99)
  have hsz0 : w.heap.size < (w.alloc (.cells zero99 99)).heap.size := by simp
  have HG0 := Lib.hid hg0
  have HB0 := Lib.hid hb0
  have HS0 := Lib.hid hsz0
  have d1 : ((repsE g t).2 != 0) = true := by simpa using he
  obtain ⟨A, c, rfl, hc1, hc2, hc⟩ := ht.open_
  clear hc ht hb0 hg0 hsz0
  have HC' : Hid (Calls Try.prog 51 #[.int .i64 g, .slice A t.length c] (w.alloc (.cells zero99 99)) fun e w' => (∃ u, e = .returned (.tuple #[u, .int .i64 (repsE g t).2])) ∧ Below (w.alloc (.cells zero99 99)).heap.size (w.alloc (.cells zero99 99)) w') :=
    Lib.hid (HC.out.mono fun e w' ⟨⟨u, h1, _⟩, h2⟩ => ⟨⟨u, h1⟩, h2⟩)
  clear HC
  generalize (repsE g t).2 = x at *
  clear he
  go_enter Try.func69, Try.ntmps69
  go_wp2_with (first
    | ((with_reducible refine wpList_sel 4 ?_); refine wpList_val rfl (r_alloc99 rfl) ?_)
    | (go_at_call 51; (refine HC'.out.mono ?_); rintro e w1 ⟨⟨u, rfl⟩, hb⟩
       have HB1 := Lib.hid hb
       have HG1 : Hid (w1.heap[w.heap.size]? = some (.cells zero99 99 (0, 0))) := Lib.hid ((hb.block _ HS0.out).trans HG0.out)
       clear hb)
    | ((with_reducible refine wpList_sel 20 ?_); refine wpList_val rfl (r_build99 rfl) ?_; refine wpList_val rfl (r_move (.tmp 7) rfl rfl) ?_; refine wpList_skip rfl (r_store99 (.tmp 4) (.tmp 20) rfl w.heap.size zero99 zero99 rfl rfl HG1.out rfl rfl zero99_one) ?_))
  try simp only [Exit.inBlock, Exit.then]
  refine bodyPost_ret (results_99_tmp (p := 4) (q := 5) rfl _ _ w.heap.size zero99 (.int .i64 x) rfl rfl (setRow_heap _ _ _ _ _ _ HG1.out) rfl) rfl ⟨rfl, ?_⟩
  exact (HB0.out.trans (HB1.out.mono HB0.out.size)).trans ⟨rfl, rfl, rfl, by rw [World.setRow]; simp, fun k hk => setRow_other _ _ k _ (by omega)⟩
end Go.Proofs
namespace Go.Proofs
open Go.RowKit Go.Shelf Go.Proofs.Ct Go.Maps

set_option maxRecDepth 100000 in
set_option maxHeartbeats 2000000 in
theorem of69_good (w : World) (v : Value) (g : Nat) (t : Tb) (ht : Tab w v t) (hg : TGood g t) (hstd : std t 0 = some t) :
    Calls Try.prog 69 #[.int .i64 (g : Int), v] w fun e w' => (∃ vr vn, e = .returned (.tuple #[.agg #[.int .i64 (g : Int), v, vr, vn, .int .i64 ((pairs t (reps t) g).length : Int)], .int .i64 0]) ∧ SysR w' v vr vn t (reps t) (numsTo t (reps t) g t.length)) ∧ Below w.heap.size w w' := by
  have hb0 : Below w.heap.size w (w.alloc (.cells zero99 99)) := (Below.refl _ _).alloc (Nat.le_refl _) _
  have hck := check_of_good hg
  have hre : repsE g t = (reps t, 0) := by unfold repsE; rw [hck, if_neg (by simp), if_pos hstd]
  have HC : Hid (Calls Try.prog 51 #[.int .i64 (g : Int), v] (w.alloc (.cells zero99 99)) fun e w' => (∃ u, e = .returned (.tuple #[u, .int .i64 0]) ∧ Hid (TabB (w.alloc (.cells zero99 99)).heap.size w' u (reps t))) ∧ Below (w.alloc (.cells zero99 99)).heap.size (w.alloc (.cells zero99 99)) w') :=
    Lib.hid ((reps51_good _ v g t (kept_tab.below ht hb0) hg).mono fun e w' ⟨⟨u, h1, h2⟩, h3⟩ => by
      rw [hre] at h1 h2
      exact ⟨⟨u, h1, Lib.hid h2⟩, h3⟩)
  have hg0 := heap_alloc_new w (.cells zero99 99)
  have hsz0 : (w.alloc (.cells zero99 99)).heap.size = w.heap.size + 1 := by simp
  have HG0 := Lib.hid hg0
  have HB0 := Lib.hid hb0
  have HS0 := Lib.hid hsz0
  have HSTD := Lib.hid (std_iff hstd)
  have HTAB := Lib.hid ht
  have HG := Lib.hid hg
  have HRL := Lib.hid (reps_length hg (std_iff hstd))
  have hg16 := hg.g16
  have hn2 := hg.n2
  have hg0' : (0 : Int) ≤ (g : Int) := Int.natCast_nonneg _
  have hg16' : (g : Int) ≤ 16 := by omega
  have hn0 : (0 : Int) ≤ (t.length : Int) := Int.natCast_nonneg _
  obtain ⟨A, c, rfl, hc1, hc2, hc⟩ := ht.open_
  clear hc ht hb0 hg0 hsz0 hck hre hstd hg
  generalize reps t = R at *
  go_enter Try.func69, Try.ntmps69
  go_wp2_with (first
    | ((with_reducible refine wpList_sel 4 ?_); refine wpList_val rfl (r_alloc99 rfl) ?_)
    | (go_at_call 51; (refine HC.out.mono ?_); rintro e w1 ⟨⟨u, rfl, HU⟩, hb⟩
       have HB1 := Lib.hid hb
       have HG1 : Hid (w1.heap[w.heap.size]? = some (.cells zero99 99 (0, 0))) := Lib.hid ((hb.block _ (by rw [HS0.out]; omega)).trans HG0.out)
       have HN1 := Lib.hid (heap_alloc_new w1 (.cells zero99 99))
       have HOF := Lib.hid (RowsSt.first g (.slice A t.length c) u w1)
       obtain ⟨Au, cu, rfl, hu1, hu2, hu3⟩ := HU.out.at_.open_
       clear hb hu3)
    | ((with_reducible refine wpList_sel 25 ?_); refine wpList_val rfl (r_build99s (.tmp 22) (.tmp 23) (.tmp 24) (g : Int) A Au t.length R.length c cu rfl rfl rfl rfl) ?_)
    | ((with_reducible refine wpList_sel 8 ?_); refine wpList_val rfl (r_alloc99 rfl) ?_; refine wpList_skip rfl (r_store99 (.tmp 8) (.tmp 25) rfl w1.heap.size zero99 #[.int .i64 (g : Int), .slice A t.length c, .slice Au R.length cu, .slice none 0 0, .int .i64 0] rfl rfl HN1.out rfl rfl (one99 _ _ _ _ _ _ _ _ _ _ _)) ?_))
  have hW : Below w.heap.size w w1 := HB0.out.trans (HB1.out.mono HB0.out.size)
  have hw1 : w.heap.size < w1.heap.size := (Array.getElem?_eq_some_iff.1 HG1.out).1
  have HW := Lib.hid hW
  clear hW
  have HZ0 : Hid (cntL t R g 0 0 = 0) := Lib.hid rfl
  go_loopw [9] (fun i wr => ∃ k : Nat, i = .int .i64 k ∧ k ≤ t.length ∧ Hid (∃ F vn, RowsSt g (.slice A t.length c) (.slice Au R.length cu) F w1 wr vn (cntL t R g k 0 : Int) (numsTo t R g k))) (fun i _ => t.length - (intOf i).toNat)
  case atStart => exact ⟨0, rfl, by omega, Lib.hid ⟨_, _, HOF.out⟩⟩
  case round =>
    clear HOF HZ0
    obtain ⟨k, rfl, hk, HS⟩ := hrel
    have hk0 : (0 : Int) ≤ (k : Int) := Int.natCast_nonneg _
    by_cases hlt : k < t.length
    · have hlt' : (k : Int) < (t.length : Int) := by omega
      obtain ⟨F, vn, hS⟩ := HS.out
      obtain ⟨w2, hmk, hxe, hmb⟩ := makeE wr g (by omega)
      have HMK := Lib.hid hmk
      have hnb0 : w1.heap.size ≤ wr.heap.size := hS.st.below.size
      have hnF : ¬ F wr.heap.size := fun h => by have := (hS.st.fs _ h).2.1; omega
      rw [← rowL_zero t R g k] at hxe
      have HIN : Hid (RowsSt g (.slice A t.length c) (.slice Au R.length cu) F w1 w2 vn (cntL t R g k 0 : Int) (numsTo t R g k) ∧ XE w2 wr.heap.size (rowL t R g k 0)) := Lib.hid ⟨hS.below' hmb, hxe⟩
      have HNF := Lib.hid hnF
      have HNB := Lib.hid hnb0
      clear hmk hxe hmb hS HS hnF hnb0
      go_wp2_with ((with_reducible refine wpList_sel 33 ?_); refine wpList_val rfl (r_make 24 (.tmp 32) (.tmp 32) rfl rfl rfl HMK.out) ?_)
      generalize wr.heap.size = nb at *
      go_loopw [11] (fun i wr => ∃ j : Nat, i = .int .i64 j ∧ j ≤ g ∧ Hid (RowsSt g (.slice A t.length c) (.slice Au R.length cu) F w1 wr vn (cntL t R g k j : Int) (numsTo t R g k) ∧ XE wr nb (rowL t R g k j))) (fun i _ => g - (intOf i).toNat)
      case atStart => exact ⟨0, rfl, by omega, HIN⟩
      case round =>
        clear HIN
        obtain ⟨j, rfl, hj, HS⟩ := hrel
        have hj0 : (0 : Int) ≤ (j : Int) := Int.natCast_nonneg _
        by_cases hjl : j < g
        · have hjl3 : (j : Int) < (g : Int) := by omega
          obtain ⟨Av, cv, e9⟩ := HS.out.1.st.out.form
          subst e9
          have hbx := HS.out.1.box
          obtain ⟨p0, p1, p2, p3, p4⟩ := box_cells5 hbx
          obtain ⟨hda, hdl⟩ := dest_at HG.out HSTD.out hlt hjl
          have hwl : ∀ i, (R.getD i []).length ≤ 100000 := fun i => by
            rcases Nat.lt_or_ge i t.length with hi | hi
            · have := HRL.out.2 i hi; omega
            · rw [List.getD_eq_getElem?_getD, List.getElem?_eq_none (by rw [HRL.out.1]; exact hi)]; simp
          have hbW := HS.out.1.st.below
          have HTR := Lib.hid (tree115_any wr (.slice A t.length c) (.slice Au R.length cu) Av (numsTo t R g k).length cv g (cntL t R g k j : Int) t R k j (kept_tab.below HTAB.out (HW.out.trans (hbW.mono HW.out.size))) (kept_tab.below HU.out.at_ hbW) HRL.out.1 hlt ⟨hda, hdl⟩ (by rw [HG.out.len k hlt]; omega) hwl (by omega))
          have hcb := cntL_bd t R g k j
          have hkg : k * g ≤ 20000 * 16 := Nat.mul_le_mul (by omega) hg16
          have hcb1 : (cntL t R g k j : Int) ≤ 400000 := by omega
          have hcb0 : (0 : Int) ≤ (cntL t R g k j : Int) := Int.natCast_nonneg _
          have HRT := Lib.hid (@rowL_tree t R g k j)
          have HCT := Lib.hid (@cntL_tree t R g k j)
          have HCN := Lib.hid (@cntL_new t R g k j)
          have HRS := Lib.hid (rowL_set t R g k j)
          have HLR := Lib.hid (length_rowL t R g k j)
          clear hda hdl hwl hbW hbx hcb hkg
          generalize number t R g k j = N at *
          generalize cntL t R g k j = m at *
          generalize rowL t R g k j = x at *
          cases hnt : nt t R k j with
          | false =>
            rw [hnt] at HTR HRT HCT
            have HRT2 := Lib.hid (HRT.out rfl)
            have HCT2 := Lib.hid (HCT.out rfl)
            clear hnt HRT HCT HCN
            go_wp2_with (go_at_call 115; (refine HTR.out.mono ?_); rintro e w2 ⟨rfl, hb⟩
                         have HS2 := Lib.hid (And.intro (HS.out.1.below' hb) ((hb.block _ (Array.getElem?_eq_some_iff.1 HS.out.2).1).trans HS.out.2))
                         clear hb)
            go_roundw
            case rel => exact ⟨j + 1, by go_num, by omega, Lib.hid ⟨by rw [HCT2.out]; exact HS2.out.1, by rw [← HRT2.out]; exact HS2.out.2⟩⟩
            case measure => simp [intOf]; omega
          | true =>
            rw [hnt] at HTR HCN
            have HCN1 := Lib.hid (HCN.out rfl).1
            have hN := (HCN.out rfl).2
            have hN' : N = (m : Int) + 1 := by rw [hN]; rfl
            clear hnt HRT HCT HCN hN
            subst hN'
            go_wp2_with (go_at_call 115; (refine HTR.out.mono ?_); rintro e w2 ⟨rfl, hb⟩
                         have HS2 := Lib.hid (And.intro (HS.out.1.below' hb) (show XE w2 nb x from (hb.block _ (Array.getElem?_eq_some_iff.1 HS.out.2).1).trans HS.out.2))
                         have HS3 := Lib.hid (And.intro (HS2.out.1.count ((m : Int) + 1)) (XE.count HS2.out.1 HS2.out.2 ((m : Int) + 1)))
                         have HS4 := Lib.hid (And.intro (HS3.out.1.row (k := j) HS3.out.2 HNB.out HNF.out (.int .i64 ((m : Int) + 1))) (HS3.out.2.set j ((m : Int) + 1)))
                         obtain ⟨q0, q1, q2, q3, q4⟩ := box_cells5 HS2.out.1.box
                         have qf : w2.frozen? ⟨w1.heap.size, 4, none⟩ = false := by simp [World.frozen?, HS2.out.1.box]
                         obtain ⟨s0, s1, s2, s3, s4⟩ := box_cells5 HS3.out.1.box
                         have sx := HS3.out.2.cell (k := j) (by rw [HLR.out]; exact hjl)
                         have sf := HS3.out.2.frozen j
                         clear hb)
            go_roundw
            case rel => exact ⟨j + 1, by go_num, by omega, Lib.hid ⟨by rw [HCN1.out]; exact HS4.out.1, by rw [← HRS.out]; exact HS4.out.2⟩⟩
            case measure => simp [intOf]; omega
        · obtain rfl : j = g := by omega
          obtain ⟨Av, cv, e9⟩ := HS.out.1.st.out.form
          subst e9
          rename World => wy
          obtain ⟨p0, p1, p2, p3, p4⟩ := box_cells5 HS.out.1.box
          obtain ⟨A', c', W', hrun, ⟨hz3, hzf⟩, F', hR⟩ := HS.out.1.done HS.out.2 HNB.out HNF.out (length_rowL t R j k j) (by omega) (fits_rowL hg16 (by omega)) (by rw [length_numsTo]; omega)
          rw [← numsTo_succ, cntL_row] at hR
          have HRUN := Lib.hid hrun
          have HR := Lib.hid hR
          clear hrun hR HS
          go_wp2_with ((with_reducible refine wpList_sel 58 ?_); refine wpList_val rfl (r_app (.tmp 55) (.tmp 57) 22 rfl rfl rfl HRUN.out) ?_)
          go_roundw
          case rel => exact ⟨k + 1, by go_num, by omega, Lib.hid ⟨_, _, HR.out⟩⟩
          case measure => simp [intOf]; omega
    · obtain rfl : k = t.length := by omega
      rename World => wz
      obtain ⟨F, vn, hS⟩ := HS.out
      have hG1 := (hS.st.below.block w.heap.size hw1).trans HG1.out
      have HGZ := Lib.hid hG1
      obtain ⟨Av, cv, e9⟩ := hS.st.out.form
      subst e9
      have HSX := Lib.hid hS
      have HPL : Hid ((pairs t R g).length = cntL t R g t.length 0) := Lib.hid rfl
      clear hG1 hS HS
      go_wp2_with ((with_reducible refine wpList_sel 60 ?_); refine wpList_val rfl (r_loadAt 99 (.tmp 8) _ _ rfl rfl (load99 HSX.out.box)) ?_; refine wpList_skip rfl (r_store99 (.tmp 4) (.tmp 60) rfl w.heap.size zero99 _ rfl rfl HGZ.out rfl rfl (one99 _ _ _ _ _ _ _ _ _ _ _)) ?_)
      try simp only [Exit.inBlock, Exit.then]
      rw [HPL.out]
      refine bodyPost_ret (results_99_tmp (p := 4) (q := 5) rfl _ _ w.heap.size _ (.int .i64 0) rfl rfl (setRow_heap _ _ _ _ _ _ HGZ.out) rfl) rfl ⟨⟨_, _, rfl, ?_⟩, ?_⟩
      · have hne : ∀ k, k ≠ w.heap.size → (wz.setRow w.heap.size #[.int .i64 (g : Int), .slice A t.length c, .slice Au R.length cu, .slice Av (numsTo t R g t.length).length cv, .int .i64 (cntL t R g t.length 0 : Int)]).heap[k]? = wz.heap[k]? := fun k hk => setRow_other _ _ k _ hk
        refine ⟨?_, ?_, ?_⟩
        · exact kept_tab _ _ _ _ (fun k hk => (hne k (by omega)).trans ((HSX.out.st.below.block k (by omega)).trans (HW.out.block k hk))) HTAB.out
        · exact HU.out _ fun k h1 h2 => (hne k (by have := HS0.out; omega)).trans (HSX.out.st.below.block k h2)
        · refine (HSX.out.st.out.keep (G := F) (fun r hr => hne r ?_) (fun r hr => hne r ?_) (fun _ h => h)).tab
          · have := (HSX.out.st.out.block r hr).1; omega
          · have := (HSX.out.st.fs r hr).1; omega
      · exact (HW.out.trans (HSX.out.st.below.mono HW.out.size)).trans ⟨rfl, rfl, rfl, by rw [World.setRow]; simp, fun k hk => setRow_other _ _ k _ (by omega)⟩
end Go.Proofs
namespace Go.Proofs
open Go.RowKit Go.Shelf Go.Proofs.Ct Go.Maps

set_option maxRecDepth 100000 in
set_option maxHeartbeats 2000000 in
theorem word73_any (w : World) (vt vr : Value) (A1 : Option Addr) (n1 c1 : Nat) (G m : Int) (t : Tb) (R : List (List Int)) (r g : Nat) (ht : Tab w vt t) (hR : Tab w vr R) (hRl : R.length = t.length) (hr : r < t.length) (hd : t.at r (2 * g) = (dest t r g : Int) ∧ dest t r g < t.length)
    (hc : 2 * g < (t.row r).length) (hb : ∀ j, (R.getD j []).length ≤ 20000) (hml : ∀ j, ∀ x ∈ R.getD j [], Mild x) (hg : g ≤ 100) :
    Calls Try.prog 73 #[.agg #[.int .i64 G, vt, vr, .slice A1 n1 c1, .int .i64 m], .int .i64 (r : Int), .int .i64 ((g : Int) + 1)] w (RedPost ((R.getD r [] ++ [(g : Int) + 1]) ++ red (inv (R.getD (dest t r g) []))) w) := by
  obtain ⟨A0, c0, rfl, h1, h2, h3⟩ := ht.open_
  obtain ⟨bt, ot, rfl, h4⟩ := h3 (by omega)
  obtain ⟨u, hu, hI⟩ := h4 r hr
  have hI2 : IntsAt w u (t.row r) := hI
  obtain ⟨Au, cu, rfl, hu1, hu2, huc⟩ := hI2.open_
  obtain ⟨bu, ou, rfl, huc'⟩ := huc (by omega)
  have hcc := huc' (2 * g) hc
  have hat : (t.row r).getD (2 * g) 0 = t.at r (2 * g) := rfl
  rw [hat, hd.1] at hcc
  obtain ⟨Ar, cr, rfl, k1, k2, k3⟩ := hR.open_
  obtain ⟨br, or', rfl, k4⟩ := k3 (by omega)
  obtain ⟨ur, hur, hIr⟩ := k4 r (by omega)
  obtain ⟨ud, hud, hId⟩ := k4 (dest t r g) (by omega)
  obtain ⟨A7, c7, rfl, -, -, -⟩ := hIr.open_
  obtain ⟨Ad, cd, rfl, -, -, -⟩ := hId.open_
  have hbel : Below w.heap.size w (w.alloc (.cells #[.int .i64 G, .slice (some ⟨bt, ot, none⟩) t.length c0, .slice (some ⟨br, or', none⟩) R.length cr, .slice A1 n1 c1, .int .i64 m] 99)) := (Below.refl _ _).alloc (Nat.le_refl _) _
  have hnew := heap_alloc_new w (.cells #[.int .i64 G, .slice (some ⟨bt, ot, none⟩) t.length c0, .slice (some ⟨br, or', none⟩) R.length cr, .slice A1 n1 c1, .int .i64 m] 99)
  have hsz : (w.alloc (.cells #[.int .i64 G, .slice (some ⟨bt, ot, none⟩) t.length c0, .slice (some ⟨br, or', none⟩) R.length cr, .slice A1 n1 c1, .int .i64 m] 99)).heap.size = w.heap.size + 1 := by simp
  have HIR := Lib.hid (hIr.below hbel)
  have HID := Lib.hid (hId.below hbel)
  have HBE := Lib.hid hbel
  have HMX : Hid (∀ z ∈ R.getD r [] ++ [(g : Int) + 1], Mild z) := Lib.hid fun z hz => by
    rcases List.mem_append.1 hz with h | h
    · exact hml r z h
    · have : z = (g : Int) + 1 := by simpa using h
      rw [this]; unfold Mild; omega
  have HMD := Lib.hid (hml (dest t r g))
  have HMY : Hid (∀ z ∈ red (inv (R.getD (dest t r g) [])), Mild z) := Lib.hid fun z hz => mild_inv HMD.out z (red_mem hz)
  have hlr := hb r
  have hld := hb (dest t r g)
  have HLY : Hid ((red (inv (R.getD (dest t r g) []))).length ≤ 20000) := Lib.hid (by have := red_length (inv (R.getD (dest t r g) [])); rw [length_inv] at this; omega)
  have hr0 : (0 : Int) ≤ (r : Int) := Int.natCast_nonneg _
  have hr1 : (r : Int) < (t.length : Int) := by omega
  have hr2 : (r : Int) < (R.length : Int) := by omega
  have hg0 : (0 : Int) ≤ (g : Int) := Int.natCast_nonneg _
  have hg1 : (g : Int) ≤ 100 := by omega
  have hc0 : 2 * ((g : Int) + 1) - 2 = ((2 * g : Nat) : Int) := by omega
  have hc1 : ((2 * g : Nat) : Int) < ((t.row r).length : Int) := by omega
  have hc2 : (0 : Int) ≤ ((2 * g : Nat) : Int) := by omega
  have hv1 : IntKind.i64.wrap (2 * ((g : Int) + 1)) = 2 * ((g : Int) + 1) := IntWalk.i64_in _ (by omega)
  have hv3 : IntKind.i64.wrap ((2 * g : Nat) : Int) = ((2 * g : Nat) : Int) := IntWalk.i64_in _ (by omega)
  have hd0 : (0 : Int) ≤ (dest t r g : Int) := Int.natCast_nonneg _
  have hd1 : (dest t r g : Int) < (R.length : Int) := by omega
  generalize dest t r g = to at *
  generalize R.getD r [] = xr at *
  generalize R.getD to [] = xd at *
  generalize (t.row r).length = rl at *
  generalize 2 * g = g2 at *
  generalize hw0 : w.alloc (.cells #[.int .i64 G, .slice (some ⟨bt, ot, none⟩) t.length c0, .slice (some ⟨br, or', none⟩) R.length cr, .slice A1 n1 c1, .int .i64 m] 99) = w0 at *
  have HSS : Hid (∀ w', Below w0.heap.size w0 w' → (w'.cell? ⟨w.heap.size, 0, none⟩ = some (.int .i64 G) ∧ w'.cell? ⟨w.heap.size, 1, none⟩ = some (.slice (some ⟨bt, ot, none⟩) t.length c0) ∧ w'.cell? ⟨w.heap.size, 2, none⟩ = some (.slice (some ⟨br, or', none⟩) R.length cr) ∧
      w'.cell? ⟨bt, ot + r, none⟩ = some (.slice (some ⟨bu, ou, none⟩) rl cu) ∧ w'.cell? ⟨bu, ou + g2, none⟩ = some (.int .i64 (to : Int)) ∧ w'.cell? ⟨br, or' + r, none⟩ = some (.slice A7 xr.length c7) ∧ w'.cell? ⟨br, or' + to, none⟩ = some (.slice Ad xd.length cd))) := Lib.hid fun w' hb' => by
    obtain ⟨y0, y1, y2, -, -⟩ := box_cells5 ((hb'.block _ (by omega)).trans hnew)
    have hk : ∀ {b o : Nat} {u : Value}, w.cell? ⟨b, o, none⟩ = some u → w'.cell? ⟨b, o, none⟩ = some u := fun {b o u} h => ((hbel.trans (hb'.mono hbel.size)).cell (p := ⟨b, o, none⟩) (World.block_lt_of_cell? w _ h)).trans h
    exact ⟨y0, y1, y2, hk hu, hk hcc, hk hur, hk hud⟩
  have hb01 : Below w0.heap.size w0 (w0.alloc (.cells #[] 3)) := (Below.refl _ _).alloc (Nat.le_refl _) _
  obtain ⟨z0, z1, z2, z3, z4, z5, z6⟩ := HSS.out _ hb01
  obtain ⟨A2, c2, w2, hr2', hb2, ho2⟩ := run_copy (t := 25) Try.underlying25 HIR.out (by omega)
  obtain ⟨A3, c3, w3, hr3', ho3, hg3, -⟩ := push_int 25 25 Try.underlying25 w2 w0.heap.size _ xr ho2 ((g : Int) + 1) (by omega) hb2.size
  have hB3 : Below w0.heap.size w0 w3 := hb2.grown hg3 hb2.size (fun k hk => (owns_block ho2 k hk).1)
  have HR2 := Lib.hid hr2'
  have HR3 := Lib.hid hr3'
  have HO3 := Lib.hid (OwnI.ints ho3 (Mild.fits HMX.out))
  have HB3 := Lib.hid hB3
  have HSZ := Lib.hid hsz
  have HW0 := Lib.hid hw0
  clear h3 h4 hI hI2 huc huc' ht hR hbel hat hnew hsz hcc hu hd hb hc hRl k3 k4 hur hud hIr hId hml hr2' hr3' ho3 hg3 hB3 ho2 hb2 hb01 hw0
  generalize hX : xr ++ [(g : Int) + 1] ++ red (inv xd) = X at *
  have HX := Lib.hid hX
  clear hX
  go_enter Try.func73, Try.ntmps73
  go_wp2_with (first
    | ((with_reducible refine wpList_sel 8 ?_); rw [HW0.out])
    | ((with_reducible refine wpList_sel 14 ?_); refine wpList_val rfl (r_app (.tmp 8) (.tmp 13) 25 rfl rfl rfl HR2.out) ?_)
    | ((with_reducible refine wpList_sel 17 ?_); refine wpList_val rfl (r_app (.tmp 14) (.tmp 16) 25 rfl rfl rfl HR3.out) ?_))
  have HW : Hid (Below w0.heap.size w0 w3.drew) := Lib.hid HB3.out.drew
  have HI8 : Hid (IntsAt w3.drew (.slice A3 (xr.length + 1) c3) (xr ++ [(g : Int) + 1])) := Lib.hid HO3.out
  clear HO3 HB3 HR2 HR3 z0 z1 z2 z3 z4 z5 z6
  go_region_held3 (fun w' => w'.cell? ⟨w.heap.size, 0, none⟩ = some (.int .i64 G) ∧ w'.cell? ⟨w.heap.size, 1, none⟩ = some (.slice (some ⟨bt, ot, none⟩) t.length c0) ∧ w'.cell? ⟨w.heap.size, 2, none⟩ = some (.slice (some ⟨br, or', none⟩) R.length cr) ∧
      w'.cell? ⟨bt, ot + r, none⟩ = some (.slice (some ⟨bu, ou, none⟩) rl cu) ∧ w'.cell? ⟨bu, ou + g2, none⟩ = some (.int .i64 (to : Int)) ∧ w'.cell? ⟨br, or' + r, none⟩ = some (.slice A7 xr.length c7) ∧ w'.cell? ⟨br, or' + to, none⟩ = some (.slice Ad xd.length cd)) (first | exact HSS.out _ HW.out)
    (first
    | (go_at_call 102; (refine (invert102_any _ (.slice Ad xd.length cd) xd (HID.out.below HW.out) HMD.out (by omega)).mono ?_); rintro e w9 ⟨A9', c9', rfl, ho9, hb9⟩
       have HI8 := Lib.hid (HI8.out.below hb9)
       have HO9 := Lib.hid (OwnI.ints ho9 (Mild.fits HMY.out))
       have HW : Hid (Below w0.heap.size w0 w9) := Lib.hid (HW.out.trans (hb9.mono HW.out.size))
       clear ho9 hb9)
    | (go_at_call 101; (refine (mul101_any _ _ _ (xr ++ [(g : Int) + 1]) (red (inv xd)) HI8.out HO9.out HMX.out HMY.out (by have := HLY.out; simp; omega)).mono ?_); rintro e w10 ⟨A10, c10, rfl, ho10, hb10⟩
       rw [HX.out] at ho10 ⊢
       have HO10 := Lib.hid (owns_base ho10 HW.out.size)
       have HW := Lib.hid (HW.out.trans (hb10.mono HW.out.size))
       clear ho10 hb10))
  all_goals
    go_wp2_with fail
    go_ret
    exact RedPost.base HBE.out ⟨_, _, rfl, HO10.out, HW.out⟩
end Go.Proofs
namespace Go.Proofs
open Go.RowKit Go.Shelf Go.Proofs.Ct Go.Maps

set_option maxRecDepth 100000 in
set_option maxHeartbeats 1000000 in
theorem count17_any (w : World) (v : Value) (g : Int) (t : Tb) (ht : Tab w v t) :
    Calls Try.prog 17 #[.int .i64 g, v] w fun e w' => e = .returned (.tuple #[.int .i64 (countE g t), .int .i64 (repsE g t).2]) ∧ Below w.heap.size w w' := by
  by_cases he : (repsE g t).2 = 0
  · obtain ⟨gn, rfl, hg, hstd, hre⟩ := repsE_good he
    have HC := Lib.hid (of69_good w v gn t ht hg hstd)
    have HE : Hid (countE gn t = ((pairs t (reps t) gn).length : Int)) := Lib.hid (by unfold countE; rw [if_pos he]; rfl)
    rw [he]
    obtain ⟨A, c, rfl⟩ := Tab.form ht
    clear ht hg hstd hre he
    go_enter Try.func17, Try.ntmps17
    go_wp2_with (first
      | (go_at_call 69; (refine HC.out.mono ?_); rintro e w1 ⟨⟨vr, vn, rfl, hS⟩, hb⟩
         obtain ⟨Ar, cr, rfl⟩ := Tab.form hS.reps
         obtain ⟨An, cn, rfl⟩ := Tab.form hS.nums
         have HN1 := Lib.hid (heap_alloc_new w1 (.cells zero99 99))
         have HB1 := Lib.hid hb
         have HX := Lib.hid (box_cells5 (setRow_heap (w1.alloc (.cells zero99 99)) w1.heap.size zero99 #[.int .i64 (gn : Int), .slice A t.length c, .slice Ar (reps t).length cr, .slice An (numsTo t (reps t) gn t.length).length cn, .int .i64 ((pairs t (reps t) gn).length : Int)] 99 (0, 0) HN1.out))
         clear hb hS)
      | ((with_reducible refine wpList_sel 6 ?_); refine wpList_val rfl (r_alloc99 rfl) ?_; refine wpList_skip rfl (r_store99 (.tmp 6) (.tmp 12) rfl w1.heap.size zero99 #[.int .i64 (gn : Int), .slice A t.length c, .slice Ar (reps t).length cr, .slice An (numsTo t (reps t) gn t.length).length cn, .int .i64 ((pairs t (reps t) gn).length : Int)] rfl rfl HN1.out rfl rfl (one99 _ _ _ _ _ _ _ _ _ _ _)) ?_
         have hx := HX.out.2.2.2.2))
    go_ret2
    exact ⟨ret_pair HE.out.symm rfl, below_boxed HB1.out _ _⟩
  · have HC := Lib.hid (of69_bad w v g t ht he)
    have HE : Hid (countE g t = 0) := Lib.hid (by unfold countE; rw [if_neg he])
    obtain ⟨A, c, rfl⟩ := Tab.form ht
    generalize (repsE g t).2 = x at *
    clear ht he
    go_enter Try.func17, Try.ntmps17
    go_wp2_with (first
      | (go_at_call 69; (refine HC.out.mono ?_); rintro e w1 ⟨rfl, hb⟩
         have HN1 := Lib.hid (heap_alloc_new w1 (.cells zero99 99))
         have HB1 := Lib.hid hb
         have HX := Lib.hid (box_cells5 (setRow_heap (w1.alloc (.cells zero99 99)) w1.heap.size zero99 zero99 99 (0, 0) HN1.out))
         clear hb)
      | ((with_reducible refine wpList_sel 6 ?_); refine wpList_val rfl (r_alloc99 rfl) ?_; refine wpList_skip rfl (r_store99 (.tmp 6) (.tmp 12) rfl w1.heap.size zero99 zero99 rfl rfl HN1.out rfl rfl zero99_one) ?_
         have hx := HX.out.2.2.2.2))
    go_ret2
    exact ⟨ret_pair HE.out.symm rfl, below_boxed HB1.out _ _⟩

/-- the words of the pairs so far -/
def gensR (t : Tb) (R : List W) (g r k : Nat) : List W := (pairRow t R r k (pairTo t R g r)).map (schr t R)
theorem gensR_tree {t : Tb} {R : List W} {g r k : Nat} (h : nt t R r k = false) : gensR t R g r (k + 1) = gensR t R g r k := by
  unfold gensR pairRow
  rw [foldTo, h]
  rfl
theorem gensR_new {t : Tb} {R : List W} {g r k : Nat} (h : nt t R r k = true) : gensR t R g r (k + 1) = gensR t R g r k ++ [schr t R (r, k)] := by
  unfold gensR pairRow
  rw [foldTo, if_pos h]
  simp
theorem gensR_row (t : Tb) (R : List W) (g r : Nat) : gensR t R g r g = gensR t R g (r + 1) 0 := by
  unfold gensR
  conv => rhs; unfold pairRow pairTo
  rfl
theorem length_gensR (t : Tb) (R : List W) (g r k : Nat) : (gensR t R g r k).length = cntL t R g r k := by simp [gensR, cntL]
theorem gensR_all (t : Tb) (R : List W) (g : Nat) : gensR t R g t.length 0 = gensTo t R (pairs t R g) (pairs t R g).length := by
  have h1 : gensR t R g t.length 0 = (pairs t R g).map (schr t R) := rfl
  rw [h1]
  unfold gensTo
  apply List.ext_getElem
  · simp
  · intro i h2 h3
    simp at h2
    simp [List.getD_eq_getElem?_getD, h2]
theorem number_pos (t : Tb) (R : List W) (g r k : Nat) : decide (0 < number t R g r k) = nt t R r k := by
  cases h : nt t R r k with
  | false => unfold number; rw [h]; rfl
  | true =>
    have := (cntL_new (t := t) (R := R) (g := g) (r := r) (k := k) h).2
    rw [this]
    simp

set_option maxRecDepth 100000 in
set_option maxHeartbeats 1000000 in
theorem gens19_bad (w : World) (v : Value) (g : Int) (t : Tb) (ht : Tab w v t) (he : (repsE g t).2 ≠ 0) : Calls Try.prog 19 #[.int .i64 g, v] w (GensPost g t w) := by
  have HC := Lib.hid (of69_bad w v g t ht he)
  have HE : Hid (gensE g t = ([], (repsE g t).2)) := Lib.hid (by unfold gensE; rw [if_pos he])
  have d1 : ((repsE g t).2 != 0) = true := by simpa using he
  obtain ⟨A, c, rfl⟩ := Tab.form ht
  generalize (repsE g t).2 = x at *
  clear ht he
  go_enter Try.func19, Try.ntmps19
  go_wp2_with (first
    | (go_at_call 69; (refine HC.out.mono ?_); rintro e w1 ⟨rfl, hb⟩
       have HN1 := Lib.hid (heap_alloc_new w1 (.cells zero99 99))
       have HB1 := Lib.hid hb
       clear hb)
    | ((with_reducible refine wpList_sel 6 ?_); refine wpList_val rfl (r_alloc99 rfl) ?_; refine wpList_skip rfl (r_store99 (.tmp 6) (.tmp 15) rfl w1.heap.size zero99 zero99 rfl rfl HN1.out rfl rfl zero99_one) ?_))
  go_ret2
  exact ⟨⟨.slice none 0 0, ret_of2 rfl (by rw [HE.out]), by rw [HE.out]; exact TabB.nil⟩, below_boxed HB1.out _ _⟩
end Go.Proofs
