/- The numbers of SmithPowers, plainly; slices.Clone and slices.Reverse at pairs, slices.Reverse at ints, smith.power; smith.Join. -/
import Derived.Test.YthfachbkcmifbaaPoCS9
import Derived.Test.YthfachbkcmifbaaPoCS7
import Derived.Shelf.SlicesQ.Reverse
import Derived.Shelf.Slices.Reverse
import Derived.Ground.SlgnProg
import Derived.Ground.NamesProg
import Derived.Lib.SlKeysI
import Derived.Test.YthfachbkcmifbaaPoCS3
import Derived.Deep.RegionLaw
import Derived.Deep.CutRange
import Derived.Deep.CutBlock
import Derived.Deep.Light
namespace Go.Proofs
open Go.RowKit Go.Shelf Go.Proofs.Sm
def lastT (t : Nat) (cs : List Nat) : Nat := cs.foldl (· * ·) t
theorem torE_snoc : ∀ (cs : List Nat) (t c : Nat), torE t (cs ++ [c]) = torE t cs ++ (if 1 < lastT t cs * c then [lastT t cs * c] else [])
  | [], t, c => by
    by_cases h : 1 < t * c <;> simp [torE, lastT, h]
  | d :: cs, t, c => by
    have ih := torE_snoc cs (t * d) c
    rw [List.cons_append]
    unfold torE
    have hl : lastT t (d :: cs) = lastT (t * d) cs := rfl
    rw [ih, hl]
    split <;> simp
def csOf (l : List Int) : List Nat := l.map fun x => (1 + x % 12).toNat
def tor (l : List Int) (k : Nat) : List Int := (torE 1 ((csOf l).take k)).map fun x => ((x : Nat) : Int)
def lastN (l : List Int) (k : Nat) : Nat := lastT 1 ((csOf l).take k)
theorem c_bd (x : Int) : ((1 + x % 12).toNat : Int) = 1 + x % 12 ∧ 1 ≤ (1 + x % 12).toNat ∧ (1 + x % 12).toNat ≤ 12 := by
  have h1 := Int.emod_nonneg x (show (12 : Int) ≠ 0 by omega)
  have h2 := Int.emod_lt_of_pos x (show (0 : Int) < 12 by omega)
  omega
theorem cs_take {l : List Int} {k : Nat} (h : k < l.length) : (csOf l).take (k + 1) = (csOf l).take k ++ [(1 + l.getD k 0 % 12).toNat] := by
  rw [List.take_succ_eq_append_getElem (by unfold csOf; rw [List.length_map]; exact h), List.getD_eq_getElem?_getD, List.getElem?_eq_getElem h]
  simp [csOf]
theorem last_succ {l : List Int} {k : Nat} (h : k < l.length) : lastN l (k + 1) = lastN l k * (1 + l.getD k 0 % 12).toNat := by
  unfold lastN
  rw [cs_take h]
  unfold lastT
  rw [List.foldl_append]
  rfl
theorem tor_succ {l : List Int} {k : Nat} (h : k < l.length) : tor l (k + 1) = tor l k ++ (if 1 < lastN l (k + 1) then [((lastN l (k + 1) : Nat) : Int)] else []) := by
  have hl := last_succ h
  unfold tor
  rw [cs_take h, torE_snoc, List.map_append]
  congr 1
  rw [show lastT 1 ((csOf l).take k) * (1 + l.getD k 0 % 12).toNat = lastN l (k + 1) from hl.symm]
  split <;> simp
theorem last_bd {l : List Int} : ∀ {k : Nat}, k ≤ l.length → 1 ≤ lastN l k ∧ lastN l k ≤ 12 ^ k
  | 0, _ => ⟨Nat.le_refl _, Nat.le_refl _⟩
  | k + 1, h => by
    obtain ⟨a, b⟩ := last_bd (l := l) (k := k) (by omega)
    obtain ⟨-, c1, c2⟩ := c_bd (l.getD k 0)
    rw [last_succ (by omega), Nat.pow_succ]
    exact ⟨Nat.mul_pos a c1, Nat.mul_le_mul b c2⟩
theorem tor_len (l : List Int) : ∀ (k : Nat), k ≤ l.length → (tor l k).length ≤ k
  | 0, _ => Nat.le_refl _
  | k + 1, h => by
    have := tor_len l k (by omega)
    rw [tor_succ (by omega), List.length_append]
    split <;> simp <;> omega
/-- the law of SmithPowers -/
theorem tor_law (l : List Int) (hl : l.length ≤ 6) : ∃ Vs : List Vec, tor l l.length = Vs.map (fun V => ((val V : Nat) : Int)) ∧ Chain Vs ∧ Vs.length ≤ 6 ∧ powersE (tor l l.length) = (srt Vs, 0) ∧ ∀ qs : List Pr, qs.Perm (srt Vs) → joinE qs = (tor l l.length, 0) := by
  have hcs : ∀ c ∈ csOf l, 1 ≤ c ∧ c ≤ 12 := fun c hc => by
    obtain ⟨x, -, rfl⟩ := List.mem_map.1 hc
    exact (c_bd x).2
  obtain ⟨Vs, a1, -, a3, a4, a5⟩ := torE_vec (csOf l) (fun _ => 0) hcs
  have hv1 : val (fun _ => 0) = 1 := by decide
  rw [hv1] at a1 a4
  have hlen : (csOf l).length = l.length := by unfold csOf; rw [List.length_map]
  have hT : tor l l.length = Vs.map (fun V => ((val V : Nat) : Int)) := by
    unfold tor
    rw [← hlen, List.take_length, a1, List.map_map]
    rfl
  have hp : 12 ^ (csOf l).length ≤ 12 ^ 6 := Nat.pow_le_pow_right (by decide) (by omega)
  have hch : Chain Vs := ⟨a3, fun V hV => (a4 V hV).1, fun V hV => by
    have h1 := (a4 V hV).2
    have h2 : (12 : Nat) ^ 6 = 2985984 := by decide
    omega⟩
  obtain ⟨b1, b2⟩ := join_powers hch (by omega)
  exact ⟨Vs, hT, hch, by omega, by rw [hT]; exact b1, fun qs hq => by rw [hT]; exact b2 qs hq⟩
end Go.Proofs
namespace Go.Proofs
open Go.RowKit Go.Shelf Go.Proofs.Sm Go.Lib Go.Sort
shelf_lay_g SlLaysE0.n35 Slgn 35 at Try 52 as Try.reverseP
shelf_lay Lays.n112 Nm 112 at Try as Try.reverseI
theorem run_copyP {w : World} {v : Value} {ps : List Pr} (h : PrsAt w v ps) (hl : ps.length ≤ 1000000) :
    ∃ A c w', (Builtin.append_ #[53, 53] 53 #[.slice (some ⟨w.heap.size, 0, none⟩) 0 0, v]).run Try.prog (w.alloc (.cells #[] 56)) = .ok (.slice A ps.length c) w' ∧ RowKit.Below w.heap.size w w' ∧ OwnP w.heap.size w' (.slice A ps.length c) ps := by
  have hal : RowKit.Below w.heap.size w (w.alloc (.cells #[] 56)) := (RowKit.Below.refl _ _).alloc (Nat.le_refl _) _
  have hown : OwnP w.heap.size (w.alloc (.cells #[] 56)) (.slice (some ⟨w.heap.size, 0, none⟩) 0 0) [] := ⟨rfl, .inr ⟨w.heap.size, 0, #[], rfl, Nat.le_refl _, heap_alloc_new w _, Nat.le_refl _, by simp, rfl, rfl⟩⟩
  obtain ⟨A, c, w', h1, h2, h3, -⟩ := run_append_prs (w := w.alloc (.cells #[] 56)) v hown (h.below hal) (by simp) hl hal.size
  exact ⟨A, c, w', h1, hal.grown h3 hal.size (fun r hr => by cases hr; exact Nat.le_refl _), h2⟩
theorem eqnilP_none (w : World) (n c : Nat) : (binOp .eql 53 (.slice none n c) (.slice none 0 0)).run Try.prog w = .ok (.bool true) w := by kernel_rfl
theorem eqnilP_some (w : World) (a : Addr) (n c : Nat) : (binOp .eql 53 (.slice (some a) n c) (.slice none 0 0)).run Try.prog w = .ok (.bool false) w := by kernel_rfl
def CopyPost (ps : List Pr) (w : World) (e : Ending) (w' : World) : Prop := ∃ A c, e = .returned (.slice A ps.length c) ∧ OwnP w.heap.size w' (.slice A ps.length c) ps ∧ RowKit.Below w.heap.size w w'
set_option maxRecDepth 100000 in
theorem clone51_any (w : World) (v : Value) (ps : List Pr) (h : PrsAt w v ps) (hl : ps.length ≤ 1000000) : Calls Try.prog 51 #[v] w (CopyPost ps w) := by
  obtain ⟨A0, c0, w', hr, hb, ho⟩ := run_copyP h hl
  have HR := Lib.hid hr
  have HB := Lib.hid hb
  have HO := Lib.hid ho
  obtain ⟨A, cap, rfl, hcap, hmax, hc⟩ := h
  cases A with
  | none =>
    have h0 : ps = [] := by
      rcases Nat.eq_zero_or_pos ps.length with h0 | h0
      · exact List.length_eq_zero_iff.1 h0
      · obtain ⟨b, off, hx, -⟩ := hc h0
        cases hx
    clear hr hb ho hc HR HB HO
    subst h0
    have hq := eqnilP_none w
    go_enter Try.func51, Try.ntmps51
    go_wp2_with fail
    go_ret
    exact ⟨none, 0, rfl, OwnP.nil _ _, RowKit.Below.refl _ _⟩
  | some a =>
    clear hr hb ho hc
    have hq := eqnilP_some w
    go_enter Try.func51, Try.ntmps51
    go_wp2_with ((with_reducible refine wpList_sel 7 ?_); refine wpList_val rfl (r_app (.tmp 5) (.tmp 6) 53 rfl rfl rfl HR.out) ?_)
    go_ret
    exact ⟨_, _, rfl, HO.out, HB.out⟩
set_option maxRecDepth 100000 in
theorem own28_any (w : World) (v : Value) (ps : List Pr) (h : PrsAt w v ps) (hl : ps.length ≤ 1000000) : Calls Try.prog 28 #[v] w (CopyPost ps w) := by
  obtain ⟨A0, c0, w', hr, hb, ho⟩ := run_copyP h hl
  have HR := Lib.hid hr
  have HB := Lib.hid hb
  have HO := Lib.hid ho
  clear hr hb ho h
  go_enter Try.func28, Try.ntmps28
  go_wp2_with ((with_reducible refine wpList_sel 5 ?_); refine wpList_val rfl (r_app (.tmp 3) (.tmp 4) 53 rfl rfl rfl HR.out) ?_)
  go_ret
  exact ⟨_, _, rfl, HO.out, HB.out⟩
/-- other pairs are written into the row -/
theorem ownP_put {w : World} {base g cap : Nat} {ps : List Pr} (h : OwnP base w (.slice (some ⟨g, 0, none⟩) ps.length cap) ps) (qs : List Pr) (hl : qs.length = ps.length) (n : Nat) :
    HoldsK pcell 2 w g 0 ps.toArray ∧ OwnP base (putRowK pcell 2 (Sort.ahead w n) g 0 qs.toArray) (.slice (some ⟨g, 0, none⟩) ps.length cap) qs ∧ RowKit.Below base w (putRowK pcell 2 (Sort.ahead w n) g 0 qs.toArray) := by
  obtain ⟨hlen, ho⟩ := h
  rcases ho with ⟨e, -⟩ | ⟨g', cap', cur, e, hb, hC, h1, hm, hs, ht⟩
  · cases e
  · injection e with e1 e2 e3
    injection e1 with e1
    injection e1 with e1
    subst e1 e3
    have hg : g < w.heap.size := (Array.getElem?_eq_some_iff.1 hC).1
    have hpl : (pcells qs).length = ps.length * 2 := by rw [pcells_length, hl]
    refine ⟨?_, ?_, ?_⟩
    · unfold HoldsK
      rw [flatK_get]
      intro j hj
      have hj' : j < (pcells ps).length := by simpa using hj
      refine ⟨?_, by simp [World.frozen?, hC]⟩
      have h5 : (cur.toList.take (ps.length * 2))[j]? = (pcells ps)[j]? := by rw [ht]
      rw [List.getElem?_take, if_pos (by rw [← pcells_length]; exact hj')] at h5
      rw [Nat.zero_add, cell_of_row _ _ _ _ _ _ hC]
      have : (pcells ps).toArray[j]! = (pcells ps)[j] := by simp [hj']
      rw [this, id, ← List.getElem?_eq_getElem hj', ← h5]
      simp
    · have hh := heap_sortedW (n := n) (os := #[]) (pcells qs).toArray hC
      rw [grow_empty] at hh
      unfold putRowK
      rw [flatK_get]
      refine ⟨by rw [pcells_length], .inr ⟨g, cap, _, by rw [hl], hb, hh, by rw [hl]; exact h1, hm, by simp [putCells, hs], ?_⟩⟩
      rw [hl, ← hpl]
      exact take_putCellsW cur _ (by rw [hpl, hs]; omega)
    · have hh := grownBy_sortedW (w := w) (g := g) (n := n) (os := #[]) (pcells qs).toArray
      rw [grow_empty] at hh
      unfold putRowK
      rw [flatK_get]
      exact (RowKit.Below.refl base w).grown hh (Nat.le_trans hb (Nat.le_of_lt hg)) fun r hr => by cases hr; exact hb
theorem reverse52_any (base : Nat) (w : World) (v : Value) (ps : List Pr) (h : OwnP base w v ps) (hl : ps.length ≤ 1000000) : Calls Try.prog 52 #[v] w fun e w' => e = .returned (.tuple #[]) ∧ OwnP base w' v ps.reverse ∧ RowKit.Below base w w' := by
  rcases h.2 with ⟨rfl, h0⟩ | ⟨g, cap, cur, rfl, -⟩
  · obtain rfl : ps = [] := List.length_eq_zero_iff.1 h0
    have hc : Calls Try.prog 52 #[.slice none 0 0] w _ := AnyQ.slices_Reverse_empty Try.reverseP none 0 w
    exact hc.mono fun e w' ⟨h1, h2⟩ => ⟨h1, OwnP.nil _ _, by rw [h2]; exact RowKit.Below.refl _ _⟩
  · have hp := fun n => ownP_put h ps.reverse (by simp) n
    have hc : Calls Try.prog 52 #[.slice (some ⟨g, 0, none⟩) ps.length cap] w _ := AnyQ.slices_Reverse Try.reverseP 2 isAgg56 sizeOf56 pcell (fun _ => rfl) (fun x v hv => by simp [pcell] at hv; rcases hv with rfl | rfl <;> rfl) g 0 cap ps.toArray w (hp 0).1 (by simp; omega)
    refine hc.mono ?_
    rintro e w' ⟨h1, n, rfl⟩
    have e2 : ps.toArray.reverse = ps.reverse.toArray := by simp
    rw [e2]
    exact ⟨h1, (hp n).2.1, (hp n).2.2⟩
theorem reverse54_any (base : Nat) (w : World) (v : Value) (xs : List Int) (h : OwnI base w v xs) (hl : xs.length ≤ 1000000) : Calls Try.prog 54 #[v] w fun e w' => e = .returned (.tuple #[]) ∧ OwnI base w' v xs.reverse ∧ RowKit.Below base w w' := by
  rcases h.2 with ⟨rfl, h0⟩ | ⟨g, cap, cur, rfl, hb, hC, h1, hm, hs, ht⟩
  · obtain rfl : xs = [] := List.length_eq_zero_iff.1 h0
    have hc : Calls Try.prog 54 #[.slice none 0 0] w _ := Any.slices_Reverse_int_empty Try.reverseI none 0 w
    exact hc.mono fun e w' ⟨h1, h2⟩ => ⟨h1, World.ownsRow_nil _ _ _ _, by rw [h2]; exact RowKit.Below.refl _ _⟩
  · have hg : g < w.heap.size := (Array.getElem?_eq_some_iff.1 hC).1
    have hH : Holds (Value.int .i64) w g 0 xs.toArray := holds_of_block_i hC (by rw [Nat.mul_one] at ht; exact ht)
    have hc : Calls Try.prog 54 #[.slice (some ⟨g, 0, none⟩) xs.length cap] w _ := Any.slices_Reverse_int Try.reverseI g 0 cap xs w hH (by omega)
    refine hc.mono ?_
    rintro e w' ⟨h2, n, rfl⟩
    have ho := ownsRow_sorted_i (n := n) (os := #[]) (ss := xs) (ts := xs.reverse) (by simp) hb hC h1 hm hs
    have hgr := grownBy_sorted_i (w := w) (g := g) (n := n) (os := #[]) xs.reverse.toArray
    rw [grow_empty] at ho hgr
    refine ⟨h2, ?_, (RowKit.Below.refl base w).grown hgr (Nat.le_trans hb (Nat.le_of_lt hg)) fun r hr => by cases hr; exact hb⟩
    unfold OwnI
    rw [List.length_reverse]
    exact ho
end Go.Proofs
namespace Go.Proofs
open Go.RowKit Go.Shelf Go.Proofs.Sm
def JoinPost (r : List Int × Int) (w : World) (e : Ending) (w' : World) : Prop := (∃ v, e = .returned (.tuple #[v, .int .i64 r.2]) ∧ IntsAt w' v r.1) ∧ Below w.heap.size w w'
/-- the list of Join as it grows -/
structure JoSt (L : List Pr) (w wr : World) (k : Nat) (st : List Int × Nat) (A : Option Addr) (c : Nat) : Prop where
  jto : joinTo L k = some st
  own : OwnI w.heap.size wr (.slice A st.1.length c) st.1
  below : Below w.heap.size w wr
theorem reads_pair {w wr : World} {b o k : Nat} {x1 x2 : Int} (h : w.cell? ⟨b, o + k * 2, none⟩ = some (.int .i64 x1) ∧ w.cell? ⟨b, o + k * 2 + 1, none⟩ = some (.int .i64 x2)) (hb : Below w.heap.size w wr) : wr.cell? ⟨b, o + k * 2, none⟩ = some (.int .i64 x1) ∧ wr.cell? ⟨b, o + k * 2 + 1, none⟩ = some (.int .i64 x2) :=
  ⟨(hb.cell (p := ⟨b, o + k * 2, none⟩) (World.block_lt_of_cell? w _ h.1)).trans h.1, (hb.cell (p := ⟨b, o + k * 2 + 1, none⟩) (World.block_lt_of_cell? w _ h.2)).trans h.2⟩
theorem join_step {L : List Pr} {k a a' p n : Nat} {o o2 : List Int} (h : joinTo L k = some (o, a)) (ha : atE L k a = a') (ho : outE o a' = o2) (hp : (L.getD k (0, 0)).1 = (p : Int)) (hn : (L.getD k (0, 0)).2 = (n : Int)) :
    joinTo L (k + 1) = if o2.getD a' 0 * (powE p n : Int) < 1 ∨ 1000000000 < o2.getD a' 0 * (powE p n : Int) then none else some (o2.set a' (o2.getD a' 0 * (powE p n : Int)), a' + 1) := by
  show (joinTo L k).bind (joinS L k) = _
  rw [h]
  show joinS L k (o, a) = _
  unfold joinS
  simp only [ha, ho, hp, hn, Int.toNat_natCast]
theorem mul_bd {x y : Int} (h1 : 1 ≤ x) (h2 : x ≤ 1000000000) (h3 : 0 ≤ y) (h4 : y ≤ 1000000000) : 0 ≤ x * y ∧ x * y ≤ 1000000000000000000 := by
  have h5 : 0 ≤ x * y := Int.mul_nonneg (by omega) h3
  have h6 : x * y ≤ 1000000000 * 1000000000 := Int.mul_le_mul h2 h4 h3 (by omega)
  omega
/-- Join ahead of the multiplication -/
structure JT (w4 W : World) (X p n a : Nat) (o : List Int) (A : Option Addr) (m c : Nat) : Prop where
  own : OwnI w4.heap.size W (.slice A m c) o
  len : m = o.length
  below : Below w4.heap.size w4 W
  xb : W.heap[X]? = some (.cells #[.int .i64 (p : Int), .int .i64 (n : Int)] 56 (0, 0))
  lt : a < o.length
  bd : ∀ z ∈ o, 1 ≤ z ∧ z ≤ 1000000000
theorem JT.facts {w4 W : World} {X p n a : Nat} {o : List Int} {A : Option Addr} {m c : Nat} (h : JT w4 W X p n a o A m c) : ∃ g z, A = some ⟨g, 0, none⟩ ∧ z = o.getD a 0 ∧ 1 ≤ z ∧ z ≤ 1000000000 ∧ a < m ∧ m ≤ c ∧ c ≤ 9223372036854775807 ∧ W.cell? ⟨g, a, none⟩ = some (.int .i64 z) ∧ W.frozen? ⟨g, a, none⟩ = false ∧ W.cell? ⟨X, 0, none⟩ = some (.int .i64 (p : Int)) ∧ W.cell? ⟨X, 1, none⟩ = some (.int .i64 (n : Int)) ∧
    Hid (∀ (W' : World) (y : Int), W'.heap = W.heap → W'.os = W.os → W'.tape = W.tape → W'.output = W.output → (W'.setCell ⟨g, a, none⟩ (.int .i64 y)).cell? ⟨g, a, none⟩ = some (.int .i64 y) ∧ OwnI w4.heap.size (W'.setCell ⟨g, a, none⟩ (.int .i64 y)) (.slice A m c) (o.set a y) ∧ Below w4.heap.size w4 (W'.setCell ⟨g, a, none⟩ (.int .i64 y))) := by
  obtain ⟨h1, rfl, h3, h4, h5, h6⟩ := h
  obtain ⟨g, rfl, hX, hb, hc1, hc2⟩ := owns_xs h1 (by omega)
  obtain ⟨z1, z2⟩ := getD_bd h6 h5
  refine ⟨g, _, rfl, rfl, z1, z2, h5, hc1, hc2, hX.cell h5, hX.frozen a, by rw [cell_of_row _ _ _ _ _ _ h4]; rfl, by rw [cell_of_row _ _ _ _ _ _ h4]; rfl, Lib.hid fun W' y e1 e2 e3 e4 => ?_⟩
  have hX' : XsAt W' g o := hX.keep (by rw [e1])
  have hset := hX'.set h5 y
  refine ⟨?_, ?_, ?_⟩
  · have := hset.cell (k := a) (by rw [List.length_set]; exact h5)
    rw [this]
    simp [List.getD_eq_getElem?_getD, h5]
  · obtain ⟨hl, ho⟩ := h1
    rcases ho with ⟨e, -⟩ | ⟨g', cap, cur, e, hbb, hC, q1, q2, q3, q4⟩
    · cases e
    · injection e with e5 e6 e7
      injection e5 with e5
      injection e5 with e5
      subst e5 e7
      have hC' : W'.heap[g]? = some (.cells cur 3 (0, 0)) := by rw [e1]; exact hC
      refine ⟨by simp [ints], .inr ⟨g, c, cur.setIfInBounds a (.int .i64 y), by rw [List.length_set], hbb, by simp [World.setCell, Array.getElem?_modify, hC'], by rw [List.length_set]; exact q1, q2, by simpa using q3, ?_⟩⟩
      rw [List.length_set, Array.toList_setIfInBounds, List.take_set, q4]
      simp [ints, List.map_set]
  · exact (h3.trans ⟨e2, e3, e4, Nat.le_of_eq (by rw [e1]), fun k hk => by rw [e1]⟩).setCell (p := ⟨g, a, none⟩) hb _
set_option maxRecDepth 100000 in
set_option maxHeartbeats 4000000 in
theorem join29_any (w : World) (v : Value) (ps : List Pr) (h : PrsAt w v ps) (hf : PFits ps) : Calls Try.prog 29 #[v] w (JoinPost (joinE ps) w) := by
  obtain ⟨R, hR⟩ : ∃ R, R = joinE ps := ⟨_, rfl⟩
  rw [← hR]
  have HR := Lib.hid hR
  have HP := Lib.hid h
  have HF := Lib.hid hf
  obtain ⟨A0, c0, rfl, hc1, hc2, -⟩ := h
  clear hR hf
  obtain ⟨N, hN⟩ : ∃ N, N = ps.length := ⟨_, rfl⟩
  rw [← hN] at hc1 HP ⊢
  have HN := Lib.hid hN
  clear hN
  by_cases hlong : 1000 < N
  · have HE : Hid (R = ([], 4)) := Lib.hid (by rw [HR.out]; unfold joinE; rw [if_pos (by rw [← HN.out]; exact hlong)])
    have hd : (1000 : Int) < (N : Int) := by omega
    clear HR HP HF
    go_enter Try.func29, Try.ntmps29
    go_wp2_with fail
    go_ret2
    rw [HE.out]
    exact ⟨⟨_, rfl, intsAt_nil⟩, Below.refl _ _⟩
  · have hd : ¬ (1000 : Int) < (N : Int) := by omega
    have hNb : (N : Int) ≤ 1000 := by omega
    have hcon := contains48_any w (.slice A0 N c0) ps HP.out HF.out
    cases hany : ps.any badJ with
    | true =>
      rw [hany] at hcon
      have HCON := Lib.hid hcon
      have HE : Hid (R = ([], 3)) := Lib.hid (by rw [HR.out]; unfold joinE; rw [if_neg (by rw [← HN.out]; exact hlong), if_pos hany])
      clear hcon hany HR HP HF
      go_enter Try.func29, Try.ntmps29
      go_wp2_with (go_at_call 48; (refine HCON.out.mono ?_); rintro e w1 ⟨rfl, hb⟩; have HB := Lib.hid hb; clear hb)
      go_ret2
      rw [HE.out]
      exact ⟨⟨_, rfl, intsAt_nil⟩, HB.out⟩
    | false =>
      rw [hany] at hcon
      have HCON := Lib.hid hcon
      have HE : Hid (R = joinOf (sortD ps) N) := Lib.hid (by rw [HR.out]; unfold joinE; rw [if_neg (by rw [← HN.out]; exact hlong), if_neg (by rw [hany]; decide), HN.out])
      have HCL : Hid (∀ W, Below w.heap.size w W → Calls Try.prog 51 #[.slice A0 N c0] W fun e w' => ∃ A c, e = .returned (.slice A N c) ∧ OwnP W.heap.size w' (.slice A N c) ps ∧ Below W.heap.size W w') := Lib.hid fun W hW => (clone51_any W _ ps (HP.out.below hW) (by rw [← HN.out]; omega)).mono fun e w' ⟨A, c, h1, h2, h3⟩ => ⟨A, c, by rw [h1, HN.out], by rw [HN.out]; exact h2, h3⟩
      have HGOOD : Hid (∀ k, k < N → ∃ p n : Nat, ((sortD ps).getD k (0, 0)).1 = (p : Int) ∧ ((sortD ps).getD k (0, 0)).2 = (n : Int) ∧ 1 ≤ p ∧ p ≤ 1000000 ∧ 1 ≤ n ∧ n ≤ 9223372036854775807) := Lib.hid fun k hk => by
        have hmem : (sortD ps).getD k (0, 0) ∈ ps := (sortP_perm ps).mem_iff.1 (List.mem_reverse.1 (getD_memP (ps := sortD ps) (by unfold sortD; rw [List.length_reverse, sortP_length, ← HN.out]; exact hk)))
        have hb := List.any_eq_false.1 hany _ hmem
        have hf := HF.out _ hmem
        generalize (sortD ps).getD k (0, 0) = x at *
        unfold badJ at hb
        simp at hb
        obtain ⟨hb1, hb2⟩ := hb
        rw [isE_iff] at hb1
        have hf2 := hf.2.2
        exact ⟨x.1.toNat, x.2.toNat, by omega, by omega, by omega, by omega, by omega, by omega⟩
      clear hcon hany HR HP HF
      go_enter Try.func29, Try.ntmps29
      go_wp2_with (first
        | (go_at_call 48; (refine HCON.out.mono ?_); rintro e w1 ⟨rfl, hb⟩; have HB1 := Lib.hid hb; clear hb)
        | (go_at_call 51; (refine (HCL.out _ HB1.out).mono ?_); rintro e w2 ⟨A, c, rfl, ho, hb⟩; have HB2 := Lib.hid (HB1.out.trans (hb.mono HB1.out.size)); have HS := Lib.hid (sort46_any w1.heap.size w2 _ ps ho (by rw [← HN.out]; omega)); clear ho hb)
        | (go_at_call 46; (refine HS.out.mono ?_); rintro e w3 ⟨rfl, ho, hb⟩; have HB3 := Lib.hid (HB2.out.trans (hb.mono HB1.out.size)); have HRV := Lib.hid (reverse52_any w1.heap.size w3 _ (sortP ps) ho (by rw [sortP_length, ← HN.out]; omega)); clear ho hb)
        | (go_at_call 52; (refine HRV.out.mono ?_); rintro e w4 ⟨rfl, ho, hb⟩; have HB4 := Lib.hid (HB3.out.trans (hb.mono HB1.out.size)); have hpr := OwnP.prs ho; clear ho hb))
      have HL : Hid ((sortP ps).reverse = sortD ps) := Lib.hid rfl
      rw [HL.out] at hpr
      have HLEN : Hid ((sortD ps).length = N) := Lib.hid (by unfold sortD; rw [List.length_reverse, sortP_length, ← HN.out])
      clear HS HRV HCON HCL HB1 HB2 HB3 HL
      have HE2 := Lib.hid HE.out
      clear HE HN
      generalize sortD ps = L at *
      obtain ⟨A2, c2, e2, f1, f2, hpc⟩ := hpr.at_
      rw [HLEN.out] at e2 f1 hpc
      injection e2 with e2 e3 e4
      subst e2 e4
      clear e3
      have HPC := Lib.hid hpc
      clear hpr hpc
      go_loopw [5, 6, 22] (fun zo za zi wr => ∃ (k : Nat) (st : List Int × Nat) (Ao : Option Addr) (co : Nat), k ≤ N ∧ zi = .int .i64 k ∧ za = .int .i64 (st.2 : Int) ∧ zo = .slice Ao st.1.length co ∧ Hid (JoSt L w4 wr k st Ao co)) (fun _ _ zi _ => N - (intOf zi).toNat)
      case atStart => exact ⟨0, ([], 0), none, 0, by omega, rfl, rfl, rfl, Lib.hid ⟨rfl, World.ownsRow_nil _ _ _ _, Below.refl _ _⟩⟩
      case round =>
        obtain ⟨k, ⟨o, a⟩, Ao, co, hk, rfl, rfl, rfl, HI⟩ := hrel
        have hk0 : (0 : Int) ≤ (k : Int) := Int.natCast_nonneg _
        by_cases hkl : k < N
        · have hkl' : (k : Int) < (N : Int) := by omega
          obtain ⟨bl, ol, rfl, hcc⟩ := HPC.out (by omega)
          obtain ⟨p, n, hp, hn, hp1, hp2, hn1, hn2⟩ := HGOOD.out k hkl
          obtain ⟨y1, y2⟩ := reads_pair (hcc k hkl) HI.out.below
          rw [hp] at y1
          rw [hn] at y2
          have hJ := joinTo_ok HI.out.jto
          simp only
          go_wp2_with fail
          have hxb := heap_alloc_new wr (.cells #[.int .i64 (p : Int), .int .i64 (n : Int)] 56)
          have hbn : Below wr.heap.size wr (wr.alloc (.cells #[.int .i64 (p : Int), .int .i64 (n : Int)] 56)) := (Below.refl _ _).alloc (Nat.le_refl _) _
          have HW : Hid (Below w4.heap.size w4 (wr.alloc (.cells #[.int .i64 (p : Int), .int .i64 (n : Int)] 56)) ∧ OwnI w4.heap.size (wr.alloc (.cells #[.int .i64 (p : Int), .int .i64 (n : Int)] 56)) (.slice Ao o.length co) o ∧ (wr.alloc (.cells #[.int .i64 (p : Int), .int .i64 (n : Int)] 56)).heap[wr.heap.size]? = some (.cells #[.int .i64 (p : Int), .int .i64 (n : Int)] 56 (0, 0))) := Lib.hid ⟨HI.out.below.trans (hbn.mono HI.out.below.size), owns_below HI.out.own hbn, hxb⟩
          have HTO := Lib.hid HI.out.jto
          have hx0 : (wr.alloc (.cells #[.int .i64 (p : Int), .int .i64 (n : Int)] 56)).cell? ⟨wr.heap.size, 0, none⟩ = some (.int .i64 (p : Int)) := by rw [cell_of_row _ _ _ _ _ _ hxb]; rfl
          clear hxb hbn y1 y2 HI
          generalize wr.alloc (.cells #[.int .i64 (p : Int), .int .i64 (n : Int)] 56) = W1 at *
          generalize wr.heap.size = X at *
          have HJ := Lib.hid hJ
          have HPN := Lib.hid (And.intro hp hn)
          have HNN := Lib.hid hn1
          clear hJ hp hn hn1
          rcases Nat.eq_zero_or_pos k with h0 | h0
          · subst h0
            have HA : Hid (atE L 0 a = a) := Lib.hid (by unfold atE; rw [if_neg (by omega)])
            clear hcc
            have HLE : Hid (a ≤ o.length) := Lib.hid (by have := atE_le (L := L) HJ.out; rw [HA.out] at this; exact this)
            by_cases hae : a = o.length
            · have hde : ((a : Int) == (o.length : Int)) = true := by simp; omega
              have HST : Hid (joinTo L (0 + 1) = if (o ++ [1]).getD a 0 * (powE p n : Int) < 1 ∨ 1000000000 < (o ++ [1]).getD a 0 * (powE p n : Int) then none else some ((o ++ [1]).set a ((o ++ [1]).getD a 0 * (powE p n : Int)), a + 1)) := Lib.hid (join_step HTO.out HA.out (by unfold outE; rw [if_pos hae]) HPN.out.1 HPN.out.2)
              have HPUSH : Hid (∀ q, ∃ A2 c2 w8, (Builtin.append_ #[25, 25] 25 #[.slice Ao o.length co, .slice (some ⟨(W1.drewN q).heap.size, 0, none⟩) 1 1]).run Try.prog ((W1.drewN q).alloc (.cells #[.int .i64 1] 3)) = .ok (.slice A2 (o.length + 1) c2) w8 ∧ JT w4 w8 X p n a (o ++ [1]) A2 (o.length + 1) c2) := Lib.hid fun q => by
                have holen := HJ.out.len
                obtain ⟨A2, c2, w8, hr8, ho8, hg8, -⟩ := push_int 25 25 Try.underlying25 (W1.drewN q) w4.heap.size (.slice Ao o.length co) o (owns_keep HW.out.2.1 fun _ _ => rfl) 1 (by simp only at holen; omega) HW.out.1.size
                exact ⟨A2, c2, w8, hr8, ⟨ho8, by simp, (below_drewN HW.out.1 q).grown hg8 HW.out.1.size (fun r hr => (owns_block HW.out.2.1 r hr).1), (hg8.block X (Array.getElem?_eq_some_iff.1 HW.out.2.2).1 (fun e => by obtain ⟨-, C, hC⟩ := owns_block HW.out.2.1 X e.symm; rw [HW.out.2.2] at hC; injection hC with h5; injection h5 with _ h6 _; exact absurd h6 (by decide))).trans HW.out.2.2, by simp <;> omega, fun z hz => by
                  rcases List.mem_append.1 hz with hz | hz
                  · exact HJ.out.bd z hz
                  · rw [List.mem_singleton] at hz; omega⟩⟩
              clear hae
              generalize o.length = ol0 at *
              go_quiet (fail)
              obtain ⟨A2, c2, w8, hr8, hT8⟩ := HPUSH.out nq
              have HR8 := Lib.hid hr8
              have HT := Lib.hid hT8
              clear hr8 hT8 HPUSH
              go_wp2_with ((with_reducible refine wpList_sel 46 ?_); refine wpList_val rfl (r_app (.tmp 44) (.tmp 45) 25 rfl rfl rfl HR8.out) ?_)
              generalize ol0 + 1 = m at *
              generalize o ++ [1] = o2 at *
              obtain ⟨g, z, rfl, hzz, hz1, hz2, ham, hmc1, hmc2, hzc, hzf, hx0, hx1, HAFT⟩ := HT.out.facts
              have hstep := HST.out
              rw [← hzz] at hstep
              have hpw := powE_le p n
              have he1 : ((powE p n : Nat) : Int) ≤ 1000000000 := by omega
              have he0 : (0 : Int) ≤ ((powE p n : Nat) : Int) := Int.natCast_nonneg _
              have HPW := Lib.hid fun W => power53_any W p n hp1 hp2 hn2
              have HMLEN := Lib.hid HT.out.len
              clear hpw hzz HST HT
              generalize ((powE p n : Nat) : Int) = e at *
              obtain ⟨hy1, hy2⟩ := mul_bd hz1 hz2 he0 he1
              obtain ⟨y, hy⟩ : ∃ y, y = z * e := ⟨_, rfl⟩
              rw [← hy] at hy1 hy2 hstep
              have hwz : IntKind.i64.wrap (z * e) = y := by rw [← hy]; exact IntWalk.i64_in _ (by omega)
              have HSTEP := Lib.hid hstep
              have hami : ((a : Int) : Int) < (m : Int) := by omega
              clear hstep hy
              go_wp2_with fail
              go_cut [22] from 22 to 72 (fun z22 wx => z22 = .int .i64 ((0 : Nat) : Int) ∧ Hid (wx.cell? ⟨g, a, none⟩ = some (.int .i64 y) ∧ OwnI w4.heap.size wx (.slice (some ⟨g, 0, none⟩) m c2) (o2.set a y) ∧ Below w4.heap.size w4 wx))
              case first =>
                go_region_law (first
                  | (go_simp
                     go_at_call 53
                     (with_reducible refine (HPW.out _).mono ?_)
                     rintro e w' ⟨rfl, q, rfl⟩))
                all_goals
                  go_wp2_with fail
                  go_meet
                  exact ⟨rfl, Lib.hid (HAFT.out _ _ rfl rfl rfl rfl)⟩
              case rest =>
                obtain ⟨rfl, hcut2⟩ := hcut
                have hyc := hcut2.out.1
                clear hzc hzf hx0 hx1 HAFT HPW
                by_cases hb1 : y < 1
                · have HE5 : Hid (R = ([], 5)) := Lib.hid (by
                    have h := HSTEP.out
                    rw [if_pos (.inl hb1)] at h
                    have h2 := joinTo_none h (N - (0 + 1))
                    rw [show 0 + 1 + (N - (0 + 1)) = N by omega] at h2
                    rw [HE2.out, joinOf_none h2])
                  go_wp2_with fail
                  go_ret2
                  rw [HE5.out]
                  exact ⟨⟨_, rfl, intsAt_nil⟩, HB4.out.trans (hcut2.out.2.2.mono HB4.out.size)⟩
                · by_cases hb2 : 1000000000 < y
                  · have HE5 : Hid (R = ([], 5)) := Lib.hid (by
                      have h := HSTEP.out
                      rw [if_pos (.inr hb2)] at h
                      have h2 := joinTo_none h (N - (0 + 1))
                      rw [show 0 + 1 + (N - (0 + 1)) = N by omega] at h2
                      rw [HE2.out, joinOf_none h2])
                    go_wp2_with fail
                    go_ret2
                    rw [HE5.out]
                    exact ⟨⟨_, rfl, intsAt_nil⟩, HB4.out.trans (hcut2.out.2.2.mono HB4.out.size)⟩
                  · have HS2 : Hid (joinTo L (0 + 1) = some (o2.set a y, a + 1)) := Lib.hid (by rw [HSTEP.out, if_neg (by omega)])
                    have HML2 : Hid (m = (o2.set a y).length) := Lib.hid (by rw [List.length_set]; exact HMLEN.out)
                    go_wp2_with fail
                    go_roundw
                    case rel => exact ⟨0 + 1, (o2.set a y, a + 1), some ⟨g, 0, none⟩, c2, by omega, by go_num, by go_num, by rw [← HML2.out], Lib.hid ⟨HS2.out, by rw [← HML2.out]; exact hcut2.out.2.1, hcut2.out.2.2⟩⟩
                    case measure => simp [intOf]; omega
            · have hde : ((a : Int) == (o.length : Int)) = false := by simp; omega
              have HST : Hid (joinTo L (0 + 1) = if o.getD a 0 * (powE p n : Int) < 1 ∨ 1000000000 < o.getD a 0 * (powE p n : Int) then none else some (o.set a (o.getD a 0 * (powE p n : Int)), a + 1)) := Lib.hid (join_step HTO.out HA.out (by unfold outE; rw [if_neg hae]) HPN.out.1 HPN.out.2)
              have HTQ : Hid (∀ q, JT w4 (W1.drewN q) X p n a o Ao o.length co) := Lib.hid fun q => ⟨owns_keep HW.out.2.1 fun _ _ => rfl, rfl, below_drewN HW.out.1 q, HW.out.2.2, by have := HLE.out; omega, HJ.out.bd⟩
              clear hae
              go_quiet (fail)
              have HT := Lib.hid (HTQ.out nq)
              clear HTQ
              generalize W1.drewN nq = W5 at *
              go_wp2_with fail
              generalize hml : o.length = m at *
              have HML := Lib.hid hml
              clear hml
              obtain ⟨o2, ho2⟩ : ∃ o2, o2 = o := ⟨_, rfl⟩
              rw [← ho2] at HT HST HML
              clear ho2
              obtain ⟨A2, hA2⟩ : ∃ A2, A2 = Ao := ⟨_, rfl⟩
              rw [← hA2] at HT ⊢
              clear hA2
              obtain ⟨c2, hc2'⟩ : ∃ c2, c2 = co := ⟨_, rfl⟩
              rw [← hc2'] at HT ⊢
              clear hc2'
              obtain ⟨g, z, rfl, hzz, hz1, hz2, ham, hmc1, hmc2, hzc, hzf, hx0, hx1, HAFT⟩ := HT.out.facts
              have hstep := HST.out
              rw [← hzz] at hstep
              have hpw := powE_le p n
              have he1 : ((powE p n : Nat) : Int) ≤ 1000000000 := by omega
              have he0 : (0 : Int) ≤ ((powE p n : Nat) : Int) := Int.natCast_nonneg _
              have HPW := Lib.hid fun W => power53_any W p n hp1 hp2 hn2
              have HMLEN := Lib.hid HT.out.len
              clear hpw hzz HST HT
              generalize ((powE p n : Nat) : Int) = e at *
              obtain ⟨hy1, hy2⟩ := mul_bd hz1 hz2 he0 he1
              obtain ⟨y, hy⟩ : ∃ y, y = z * e := ⟨_, rfl⟩
              rw [← hy] at hy1 hy2 hstep
              have hwz : IntKind.i64.wrap (z * e) = y := by rw [← hy]; exact IntWalk.i64_in _ (by omega)
              have HSTEP := Lib.hid hstep
              have hami : ((a : Int) : Int) < (m : Int) := by omega
              clear hstep hy
              go_wp2_with fail
              go_cut [22] from 22 to 72 (fun z22 wx => z22 = .int .i64 ((0 : Nat) : Int) ∧ Hid (wx.cell? ⟨g, a, none⟩ = some (.int .i64 y) ∧ OwnI w4.heap.size wx (.slice (some ⟨g, 0, none⟩) m c2) (o2.set a y) ∧ Below w4.heap.size w4 wx))
              case first =>
                go_region_law (first
                  | (go_simp
                     go_at_call 53
                     (with_reducible refine (HPW.out _).mono ?_)
                     rintro e w' ⟨rfl, q, rfl⟩))
                all_goals
                  go_wp2_with fail
                  go_meet
                  exact ⟨rfl, Lib.hid (HAFT.out _ _ rfl rfl rfl rfl)⟩
              case rest =>
                obtain ⟨rfl, hcut2⟩ := hcut
                have hyc := hcut2.out.1
                clear hzc hzf hx0 hx1 HAFT HPW
                by_cases hb1 : y < 1
                · have HE5 : Hid (R = ([], 5)) := Lib.hid (by
                    have h := HSTEP.out
                    rw [if_pos (.inl hb1)] at h
                    have h2 := joinTo_none h (N - (0 + 1))
                    rw [show 0 + 1 + (N - (0 + 1)) = N by omega] at h2
                    rw [HE2.out, joinOf_none h2])
                  go_wp2_with fail
                  go_ret2
                  rw [HE5.out]
                  exact ⟨⟨_, rfl, intsAt_nil⟩, HB4.out.trans (hcut2.out.2.2.mono HB4.out.size)⟩
                · by_cases hb2 : 1000000000 < y
                  · have HE5 : Hid (R = ([], 5)) := Lib.hid (by
                      have h := HSTEP.out
                      rw [if_pos (.inr hb2)] at h
                      have h2 := joinTo_none h (N - (0 + 1))
                      rw [show 0 + 1 + (N - (0 + 1)) = N by omega] at h2
                      rw [HE2.out, joinOf_none h2])
                    go_wp2_with fail
                    go_ret2
                    rw [HE5.out]
                    exact ⟨⟨_, rfl, intsAt_nil⟩, HB4.out.trans (hcut2.out.2.2.mono HB4.out.size)⟩
                  · have HS2 : Hid (joinTo L (0 + 1) = some (o2.set a y, a + 1)) := Lib.hid (by rw [HSTEP.out, if_neg (by omega)])
                    have HML2 : Hid (m = (o2.set a y).length) := Lib.hid (by rw [List.length_set]; exact HMLEN.out)
                    go_wp2_with fail
                    go_roundw
                    case rel => exact ⟨0 + 1, (o2.set a y, a + 1), some ⟨g, 0, none⟩, c2, by omega, by go_num, by go_num, by rw [← HML2.out], Lib.hid ⟨HS2.out, by rw [← HML2.out]; exact hcut2.out.2.1, hcut2.out.2.2⟩⟩
                    case measure => simp [intOf]; omega
          · obtain ⟨j, rfl⟩ : ∃ j, k = j + 1 := ⟨k - 1, by omega⟩
            obtain ⟨v1, v2⟩ := reads_pair (hcc j (by omega)) HW.out.1
            clear hcc v2
            obtain ⟨p', hp'⟩ : ∃ p' : Int, p' = (L.getD j (0, 0)).1 := ⟨_, rfl⟩
            rw [← hp'] at v1
            have HQ := Lib.hid hp'
            clear hp'
            by_cases hpp : (p : Int) = p'
            · have hdd : ((p : Int) != p') = false := by simpa using hpp
              have HA : Hid (atE L (j + 1) a = a) := Lib.hid (by unfold atE; rw [if_neg]; rintro ⟨-, h⟩; exact h (by rw [HPN.out.1, hpp, HQ.out]; try rfl))
              clear hpp
              have HLE : Hid (a ≤ o.length) := Lib.hid (by have := atE_le (L := L) HJ.out; rw [HA.out] at this; exact this)
              by_cases hae : a = o.length
              · have hde : ((a : Int) == (o.length : Int)) = true := by simp; omega
                have HST : Hid (joinTo L ((j + 1) + 1) = if (o ++ [1]).getD a 0 * (powE p n : Int) < 1 ∨ 1000000000 < (o ++ [1]).getD a 0 * (powE p n : Int) then none else some ((o ++ [1]).set a ((o ++ [1]).getD a 0 * (powE p n : Int)), a + 1)) := Lib.hid (join_step HTO.out HA.out (by unfold outE; rw [if_pos hae]) HPN.out.1 HPN.out.2)
                have HPUSH : Hid (∀ q, ∃ A2 c2 w8, (Builtin.append_ #[25, 25] 25 #[.slice Ao o.length co, .slice (some ⟨(W1.drewN q).heap.size, 0, none⟩) 1 1]).run Try.prog ((W1.drewN q).alloc (.cells #[.int .i64 1] 3)) = .ok (.slice A2 (o.length + 1) c2) w8 ∧ JT w4 w8 X p n a (o ++ [1]) A2 (o.length + 1) c2) := Lib.hid fun q => by
                  have holen := HJ.out.len
                  obtain ⟨A2, c2, w8, hr8, ho8, hg8, -⟩ := push_int 25 25 Try.underlying25 (W1.drewN q) w4.heap.size (.slice Ao o.length co) o (owns_keep HW.out.2.1 fun _ _ => rfl) 1 (by simp only at holen; omega) HW.out.1.size
                  exact ⟨A2, c2, w8, hr8, ⟨ho8, by simp, (below_drewN HW.out.1 q).grown hg8 HW.out.1.size (fun r hr => (owns_block HW.out.2.1 r hr).1), (hg8.block X (Array.getElem?_eq_some_iff.1 HW.out.2.2).1 (fun e => by obtain ⟨-, C, hC⟩ := owns_block HW.out.2.1 X e.symm; rw [HW.out.2.2] at hC; injection hC with h5; injection h5 with _ h6 _; exact absurd h6 (by decide))).trans HW.out.2.2, by simp <;> omega, fun z hz => by
                    rcases List.mem_append.1 hz with hz | hz
                    · exact HJ.out.bd z hz
                    · rw [List.mem_singleton] at hz; omega⟩⟩
                clear hae
                generalize o.length = ol0 at *
                go_quiet (fail)
                obtain ⟨A2, c2, w8, hr8, hT8⟩ := HPUSH.out nq
                have HR8 := Lib.hid hr8
                have HT := Lib.hid hT8
                clear hr8 hT8 HPUSH
                go_wp2_with ((with_reducible refine wpList_sel 46 ?_); refine wpList_val rfl (r_app (.tmp 44) (.tmp 45) 25 rfl rfl rfl HR8.out) ?_)
                generalize ol0 + 1 = m at *
                generalize o ++ [1] = o2 at *
                obtain ⟨g, z, rfl, hzz, hz1, hz2, ham, hmc1, hmc2, hzc, hzf, hx0, hx1, HAFT⟩ := HT.out.facts
                have hstep := HST.out
                rw [← hzz] at hstep
                have hpw := powE_le p n
                have he1 : ((powE p n : Nat) : Int) ≤ 1000000000 := by omega
                have he0 : (0 : Int) ≤ ((powE p n : Nat) : Int) := Int.natCast_nonneg _
                have HPW := Lib.hid fun W => power53_any W p n hp1 hp2 hn2
                have HMLEN := Lib.hid HT.out.len
                clear hpw hzz HST HT
                generalize ((powE p n : Nat) : Int) = e at *
                obtain ⟨hy1, hy2⟩ := mul_bd hz1 hz2 he0 he1
                obtain ⟨y, hy⟩ : ∃ y, y = z * e := ⟨_, rfl⟩
                rw [← hy] at hy1 hy2 hstep
                have hwz : IntKind.i64.wrap (z * e) = y := by rw [← hy]; exact IntWalk.i64_in _ (by omega)
                have HSTEP := Lib.hid hstep
                have hami : ((a : Int) : Int) < (m : Int) := by omega
                clear hstep hy
                go_wp2_with fail
                go_cut [22] from 22 to 72 (fun z22 wx => z22 = .int .i64 (((j + 1) : Nat) : Int) ∧ Hid (wx.cell? ⟨g, a, none⟩ = some (.int .i64 y) ∧ OwnI w4.heap.size wx (.slice (some ⟨g, 0, none⟩) m c2) (o2.set a y) ∧ Below w4.heap.size w4 wx))
                case first =>
                  go_region_law (first
                    | (go_simp
                       go_at_call 53
                       (with_reducible refine (HPW.out _).mono ?_)
                       rintro e w' ⟨rfl, q, rfl⟩))
                  all_goals
                    go_wp2_with fail
                    go_meet
                    exact ⟨rfl, Lib.hid (HAFT.out _ _ rfl rfl rfl rfl)⟩
                case rest =>
                  obtain ⟨rfl, hcut2⟩ := hcut
                  have hyc := hcut2.out.1
                  clear hzc hzf hx0 hx1 HAFT HPW
                  by_cases hb1 : y < 1
                  · have HE5 : Hid (R = ([], 5)) := Lib.hid (by
                      have h := HSTEP.out
                      rw [if_pos (.inl hb1)] at h
                      have h2 := joinTo_none h (N - ((j + 1) + 1))
                      rw [show (j + 1) + 1 + (N - ((j + 1) + 1)) = N by omega] at h2
                      rw [HE2.out, joinOf_none h2])
                    go_wp2_with fail
                    go_ret2
                    rw [HE5.out]
                    exact ⟨⟨_, rfl, intsAt_nil⟩, HB4.out.trans (hcut2.out.2.2.mono HB4.out.size)⟩
                  · by_cases hb2 : 1000000000 < y
                    · have HE5 : Hid (R = ([], 5)) := Lib.hid (by
                        have h := HSTEP.out
                        rw [if_pos (.inr hb2)] at h
                        have h2 := joinTo_none h (N - ((j + 1) + 1))
                        rw [show (j + 1) + 1 + (N - ((j + 1) + 1)) = N by omega] at h2
                        rw [HE2.out, joinOf_none h2])
                      go_wp2_with fail
                      go_ret2
                      rw [HE5.out]
                      exact ⟨⟨_, rfl, intsAt_nil⟩, HB4.out.trans (hcut2.out.2.2.mono HB4.out.size)⟩
                    · have HS2 : Hid (joinTo L ((j + 1) + 1) = some (o2.set a y, a + 1)) := Lib.hid (by rw [HSTEP.out, if_neg (by omega)])
                      have HML2 : Hid (m = (o2.set a y).length) := Lib.hid (by rw [List.length_set]; exact HMLEN.out)
                      go_wp2_with fail
                      go_roundw
                      case rel => exact ⟨(j + 1) + 1, (o2.set a y, a + 1), some ⟨g, 0, none⟩, c2, by omega, by go_num, by go_num, by rw [← HML2.out], Lib.hid ⟨HS2.out, by rw [← HML2.out]; exact hcut2.out.2.1, hcut2.out.2.2⟩⟩
                      case measure => simp [intOf]; omega
              · have hde : ((a : Int) == (o.length : Int)) = false := by simp; omega
                have HST : Hid (joinTo L ((j + 1) + 1) = if o.getD a 0 * (powE p n : Int) < 1 ∨ 1000000000 < o.getD a 0 * (powE p n : Int) then none else some (o.set a (o.getD a 0 * (powE p n : Int)), a + 1)) := Lib.hid (join_step HTO.out HA.out (by unfold outE; rw [if_neg hae]) HPN.out.1 HPN.out.2)
                have HTQ : Hid (∀ q, JT w4 (W1.drewN q) X p n a o Ao o.length co) := Lib.hid fun q => ⟨owns_keep HW.out.2.1 fun _ _ => rfl, rfl, below_drewN HW.out.1 q, HW.out.2.2, by have := HLE.out; omega, HJ.out.bd⟩
                clear hae
                go_quiet (fail)
                have HT := Lib.hid (HTQ.out nq)
                clear HTQ
                generalize W1.drewN nq = W5 at *
                go_wp2_with fail
                generalize hml : o.length = m at *
                have HML := Lib.hid hml
                clear hml
                obtain ⟨o2, ho2⟩ : ∃ o2, o2 = o := ⟨_, rfl⟩
                rw [← ho2] at HT HST HML
                clear ho2
                obtain ⟨A2, hA2⟩ : ∃ A2, A2 = Ao := ⟨_, rfl⟩
                rw [← hA2] at HT ⊢
                clear hA2
                obtain ⟨c2, hc2'⟩ : ∃ c2, c2 = co := ⟨_, rfl⟩
                rw [← hc2'] at HT ⊢
                clear hc2'
                obtain ⟨g, z, rfl, hzz, hz1, hz2, ham, hmc1, hmc2, hzc, hzf, hx0, hx1, HAFT⟩ := HT.out.facts
                have hstep := HST.out
                rw [← hzz] at hstep
                have hpw := powE_le p n
                have he1 : ((powE p n : Nat) : Int) ≤ 1000000000 := by omega
                have he0 : (0 : Int) ≤ ((powE p n : Nat) : Int) := Int.natCast_nonneg _
                have HPW := Lib.hid fun W => power53_any W p n hp1 hp2 hn2
                have HMLEN := Lib.hid HT.out.len
                clear hpw hzz HST HT
                generalize ((powE p n : Nat) : Int) = e at *
                obtain ⟨hy1, hy2⟩ := mul_bd hz1 hz2 he0 he1
                obtain ⟨y, hy⟩ : ∃ y, y = z * e := ⟨_, rfl⟩
                rw [← hy] at hy1 hy2 hstep
                have hwz : IntKind.i64.wrap (z * e) = y := by rw [← hy]; exact IntWalk.i64_in _ (by omega)
                have HSTEP := Lib.hid hstep
                have hami : ((a : Int) : Int) < (m : Int) := by omega
                clear hstep hy
                go_wp2_with fail
                go_cut [22] from 22 to 72 (fun z22 wx => z22 = .int .i64 (((j + 1) : Nat) : Int) ∧ Hid (wx.cell? ⟨g, a, none⟩ = some (.int .i64 y) ∧ OwnI w4.heap.size wx (.slice (some ⟨g, 0, none⟩) m c2) (o2.set a y) ∧ Below w4.heap.size w4 wx))
                case first =>
                  go_region_law (first
                    | (go_simp
                       go_at_call 53
                       (with_reducible refine (HPW.out _).mono ?_)
                       rintro e w' ⟨rfl, q, rfl⟩))
                  all_goals
                    go_wp2_with fail
                    go_meet
                    exact ⟨rfl, Lib.hid (HAFT.out _ _ rfl rfl rfl rfl)⟩
                case rest =>
                  obtain ⟨rfl, hcut2⟩ := hcut
                  have hyc := hcut2.out.1
                  clear hzc hzf hx0 hx1 HAFT HPW
                  by_cases hb1 : y < 1
                  · have HE5 : Hid (R = ([], 5)) := Lib.hid (by
                      have h := HSTEP.out
                      rw [if_pos (.inl hb1)] at h
                      have h2 := joinTo_none h (N - ((j + 1) + 1))
                      rw [show (j + 1) + 1 + (N - ((j + 1) + 1)) = N by omega] at h2
                      rw [HE2.out, joinOf_none h2])
                    go_wp2_with fail
                    go_ret2
                    rw [HE5.out]
                    exact ⟨⟨_, rfl, intsAt_nil⟩, HB4.out.trans (hcut2.out.2.2.mono HB4.out.size)⟩
                  · by_cases hb2 : 1000000000 < y
                    · have HE5 : Hid (R = ([], 5)) := Lib.hid (by
                        have h := HSTEP.out
                        rw [if_pos (.inr hb2)] at h
                        have h2 := joinTo_none h (N - ((j + 1) + 1))
                        rw [show (j + 1) + 1 + (N - ((j + 1) + 1)) = N by omega] at h2
                        rw [HE2.out, joinOf_none h2])
                      go_wp2_with fail
                      go_ret2
                      rw [HE5.out]
                      exact ⟨⟨_, rfl, intsAt_nil⟩, HB4.out.trans (hcut2.out.2.2.mono HB4.out.size)⟩
                    · have HS2 : Hid (joinTo L ((j + 1) + 1) = some (o2.set a y, a + 1)) := Lib.hid (by rw [HSTEP.out, if_neg (by omega)])
                      have HML2 : Hid (m = (o2.set a y).length) := Lib.hid (by rw [List.length_set]; exact HMLEN.out)
                      go_wp2_with fail
                      go_roundw
                      case rel => exact ⟨(j + 1) + 1, (o2.set a y, a + 1), some ⟨g, 0, none⟩, c2, by omega, by go_num, by go_num, by rw [← HML2.out], Lib.hid ⟨HS2.out, by rw [← HML2.out]; exact hcut2.out.2.1, hcut2.out.2.2⟩⟩
                      case measure => simp [intOf]; omega
            · have hdd : ((p : Int) != p') = true := by simpa using hpp
              have HA : Hid (atE L (j + 1) a = 0) := Lib.hid (by unfold atE; rw [if_pos]; exact ⟨by omega, fun h => hpp (by rw [← HPN.out.1, h, HQ.out]; try rfl)⟩)
              clear hpp
              have HLE : Hid (0 ≤ o.length) := Lib.hid (by have := atE_le (L := L) HJ.out; rw [HA.out] at this; exact this)
              by_cases hae : 0 = o.length
              · have hde : ((0 : Int) == (o.length : Int)) = true := by simp; omega
                have HST : Hid (joinTo L ((j + 1) + 1) = if (o ++ [1]).getD 0 0 * (powE p n : Int) < 1 ∨ 1000000000 < (o ++ [1]).getD 0 0 * (powE p n : Int) then none else some ((o ++ [1]).set 0 ((o ++ [1]).getD 0 0 * (powE p n : Int)), 0 + 1)) := Lib.hid (join_step HTO.out HA.out (by unfold outE; rw [if_pos hae]) HPN.out.1 HPN.out.2)
                have HPUSH : Hid (∀ q, ∃ A2 c2 w8, (Builtin.append_ #[25, 25] 25 #[.slice Ao o.length co, .slice (some ⟨(W1.drewN q).heap.size, 0, none⟩) 1 1]).run Try.prog ((W1.drewN q).alloc (.cells #[.int .i64 1] 3)) = .ok (.slice A2 (o.length + 1) c2) w8 ∧ JT w4 w8 X p n 0 (o ++ [1]) A2 (o.length + 1) c2) := Lib.hid fun q => by
                  have holen := HJ.out.len
                  obtain ⟨A2, c2, w8, hr8, ho8, hg8, -⟩ := push_int 25 25 Try.underlying25 (W1.drewN q) w4.heap.size (.slice Ao o.length co) o (owns_keep HW.out.2.1 fun _ _ => rfl) 1 (by simp only at holen; omega) HW.out.1.size
                  exact ⟨A2, c2, w8, hr8, ⟨ho8, by simp, (below_drewN HW.out.1 q).grown hg8 HW.out.1.size (fun r hr => (owns_block HW.out.2.1 r hr).1), (hg8.block X (Array.getElem?_eq_some_iff.1 HW.out.2.2).1 (fun e => by obtain ⟨-, C, hC⟩ := owns_block HW.out.2.1 X e.symm; rw [HW.out.2.2] at hC; injection hC with h5; injection h5 with _ h6 _; exact absurd h6 (by decide))).trans HW.out.2.2, by simp <;> omega, fun z hz => by
                    rcases List.mem_append.1 hz with hz | hz
                    · exact HJ.out.bd z hz
                    · rw [List.mem_singleton] at hz; omega⟩⟩
                clear hae
                generalize o.length = ol0 at *
                go_quiet (fail)
                obtain ⟨A2, c2, w8, hr8, hT8⟩ := HPUSH.out nq
                have HR8 := Lib.hid hr8
                have HT := Lib.hid hT8
                clear hr8 hT8 HPUSH
                go_wp2_with ((with_reducible refine wpList_sel 46 ?_); refine wpList_val rfl (r_app (.tmp 44) (.tmp 45) 25 rfl rfl rfl HR8.out) ?_)
                generalize ol0 + 1 = m at *
                generalize o ++ [1] = o2 at *
                obtain ⟨g, z, rfl, hzz, hz1, hz2, ham, hmc1, hmc2, hzc, hzf, hx0, hx1, HAFT⟩ := HT.out.facts
                have hstep := HST.out
                rw [← hzz] at hstep
                have hpw := powE_le p n
                have he1 : ((powE p n : Nat) : Int) ≤ 1000000000 := by omega
                have he0 : (0 : Int) ≤ ((powE p n : Nat) : Int) := Int.natCast_nonneg _
                have HPW := Lib.hid fun W => power53_any W p n hp1 hp2 hn2
                have HMLEN := Lib.hid HT.out.len
                clear hpw hzz HST HT
                generalize ((powE p n : Nat) : Int) = e at *
                obtain ⟨hy1, hy2⟩ := mul_bd hz1 hz2 he0 he1
                obtain ⟨y, hy⟩ : ∃ y, y = z * e := ⟨_, rfl⟩
                rw [← hy] at hy1 hy2 hstep
                have hwz : IntKind.i64.wrap (z * e) = y := by rw [← hy]; exact IntWalk.i64_in _ (by omega)
                have HSTEP := Lib.hid hstep
                have hami : (0 : Int) < (m : Int) := by omega
                clear hstep hy
                go_wp2_with fail
                go_cut [22] from 22 to 72 (fun z22 wx => z22 = .int .i64 (((j + 1) : Nat) : Int) ∧ Hid (wx.cell? ⟨g, 0, none⟩ = some (.int .i64 y) ∧ OwnI w4.heap.size wx (.slice (some ⟨g, 0, none⟩) m c2) (o2.set 0 y) ∧ Below w4.heap.size w4 wx))
                case first =>
                  go_region_law (first
                    | (go_simp
                       go_at_call 53
                       (with_reducible refine (HPW.out _).mono ?_)
                       rintro e w' ⟨rfl, q, rfl⟩))
                  all_goals
                    go_wp2_with fail
                    go_meet
                    exact ⟨rfl, Lib.hid (HAFT.out _ _ rfl rfl rfl rfl)⟩
                case rest =>
                  obtain ⟨rfl, hcut2⟩ := hcut
                  have hyc := hcut2.out.1
                  clear hzc hzf hx0 hx1 HAFT HPW
                  by_cases hb1 : y < 1
                  · have HE5 : Hid (R = ([], 5)) := Lib.hid (by
                      have h := HSTEP.out
                      rw [if_pos (.inl hb1)] at h
                      have h2 := joinTo_none h (N - ((j + 1) + 1))
                      rw [show (j + 1) + 1 + (N - ((j + 1) + 1)) = N by omega] at h2
                      rw [HE2.out, joinOf_none h2])
                    go_wp2_with fail
                    go_ret2
                    rw [HE5.out]
                    exact ⟨⟨_, rfl, intsAt_nil⟩, HB4.out.trans (hcut2.out.2.2.mono HB4.out.size)⟩
                  · by_cases hb2 : 1000000000 < y
                    · have HE5 : Hid (R = ([], 5)) := Lib.hid (by
                        have h := HSTEP.out
                        rw [if_pos (.inr hb2)] at h
                        have h2 := joinTo_none h (N - ((j + 1) + 1))
                        rw [show (j + 1) + 1 + (N - ((j + 1) + 1)) = N by omega] at h2
                        rw [HE2.out, joinOf_none h2])
                      go_wp2_with fail
                      go_ret2
                      rw [HE5.out]
                      exact ⟨⟨_, rfl, intsAt_nil⟩, HB4.out.trans (hcut2.out.2.2.mono HB4.out.size)⟩
                    · have HS2 : Hid (joinTo L ((j + 1) + 1) = some (o2.set 0 y, 0 + 1)) := Lib.hid (by rw [HSTEP.out, if_neg (by omega)])
                      have HML2 : Hid (m = (o2.set 0 y).length) := Lib.hid (by rw [List.length_set]; exact HMLEN.out)
                      go_wp2_with fail
                      go_roundw
                      case rel => exact ⟨(j + 1) + 1, (o2.set 0 y, 0 + 1), some ⟨g, 0, none⟩, c2, by omega, by go_num, by go_num, by rw [← HML2.out], Lib.hid ⟨HS2.out, by rw [← HML2.out]; exact hcut2.out.2.1, hcut2.out.2.2⟩⟩
                      case measure => simp [intOf]; omega
              · have hde : ((0 : Int) == (o.length : Int)) = false := by simp; omega
                have HST : Hid (joinTo L ((j + 1) + 1) = if o.getD 0 0 * (powE p n : Int) < 1 ∨ 1000000000 < o.getD 0 0 * (powE p n : Int) then none else some (o.set 0 (o.getD 0 0 * (powE p n : Int)), 0 + 1)) := Lib.hid (join_step HTO.out HA.out (by unfold outE; rw [if_neg hae]) HPN.out.1 HPN.out.2)
                have HTQ : Hid (∀ q, JT w4 (W1.drewN q) X p n 0 o Ao o.length co) := Lib.hid fun q => ⟨owns_keep HW.out.2.1 fun _ _ => rfl, rfl, below_drewN HW.out.1 q, HW.out.2.2, by have := HLE.out; omega, HJ.out.bd⟩
                clear hae
                go_quiet (fail)
                have HT := Lib.hid (HTQ.out nq)
                clear HTQ
                generalize W1.drewN nq = W5 at *
                go_wp2_with fail
                generalize hml : o.length = m at *
                have HML := Lib.hid hml
                clear hml
                obtain ⟨o2, ho2⟩ : ∃ o2, o2 = o := ⟨_, rfl⟩
                rw [← ho2] at HT HST HML
                clear ho2
                obtain ⟨A2, hA2⟩ : ∃ A2, A2 = Ao := ⟨_, rfl⟩
                rw [← hA2] at HT ⊢
                clear hA2
                obtain ⟨c2, hc2'⟩ : ∃ c2, c2 = co := ⟨_, rfl⟩
                rw [← hc2'] at HT ⊢
                clear hc2'
                obtain ⟨g, z, rfl, hzz, hz1, hz2, ham, hmc1, hmc2, hzc, hzf, hx0, hx1, HAFT⟩ := HT.out.facts
                have hstep := HST.out
                rw [← hzz] at hstep
                have hpw := powE_le p n
                have he1 : ((powE p n : Nat) : Int) ≤ 1000000000 := by omega
                have he0 : (0 : Int) ≤ ((powE p n : Nat) : Int) := Int.natCast_nonneg _
                have HPW := Lib.hid fun W => power53_any W p n hp1 hp2 hn2
                have HMLEN := Lib.hid HT.out.len
                clear hpw hzz HST HT
                generalize ((powE p n : Nat) : Int) = e at *
                obtain ⟨hy1, hy2⟩ := mul_bd hz1 hz2 he0 he1
                obtain ⟨y, hy⟩ : ∃ y, y = z * e := ⟨_, rfl⟩
                rw [← hy] at hy1 hy2 hstep
                have hwz : IntKind.i64.wrap (z * e) = y := by rw [← hy]; exact IntWalk.i64_in _ (by omega)
                have HSTEP := Lib.hid hstep
                have hami : (0 : Int) < (m : Int) := by omega
                clear hstep hy
                go_wp2_with fail
                go_cut [22] from 22 to 72 (fun z22 wx => z22 = .int .i64 (((j + 1) : Nat) : Int) ∧ Hid (wx.cell? ⟨g, 0, none⟩ = some (.int .i64 y) ∧ OwnI w4.heap.size wx (.slice (some ⟨g, 0, none⟩) m c2) (o2.set 0 y) ∧ Below w4.heap.size w4 wx))
                case first =>
                  go_region_law (first
                    | (go_simp
                       go_at_call 53
                       (with_reducible refine (HPW.out _).mono ?_)
                       rintro e w' ⟨rfl, q, rfl⟩))
                  all_goals
                    go_wp2_with fail
                    go_meet
                    exact ⟨rfl, Lib.hid (HAFT.out _ _ rfl rfl rfl rfl)⟩
                case rest =>
                  obtain ⟨rfl, hcut2⟩ := hcut
                  have hyc := hcut2.out.1
                  clear hzc hzf hx0 hx1 HAFT HPW
                  by_cases hb1 : y < 1
                  · have HE5 : Hid (R = ([], 5)) := Lib.hid (by
                      have h := HSTEP.out
                      rw [if_pos (.inl hb1)] at h
                      have h2 := joinTo_none h (N - ((j + 1) + 1))
                      rw [show (j + 1) + 1 + (N - ((j + 1) + 1)) = N by omega] at h2
                      rw [HE2.out, joinOf_none h2])
                    go_wp2_with fail
                    go_ret2
                    rw [HE5.out]
                    exact ⟨⟨_, rfl, intsAt_nil⟩, HB4.out.trans (hcut2.out.2.2.mono HB4.out.size)⟩
                  · by_cases hb2 : 1000000000 < y
                    · have HE5 : Hid (R = ([], 5)) := Lib.hid (by
                        have h := HSTEP.out
                        rw [if_pos (.inr hb2)] at h
                        have h2 := joinTo_none h (N - ((j + 1) + 1))
                        rw [show (j + 1) + 1 + (N - ((j + 1) + 1)) = N by omega] at h2
                        rw [HE2.out, joinOf_none h2])
                      go_wp2_with fail
                      go_ret2
                      rw [HE5.out]
                      exact ⟨⟨_, rfl, intsAt_nil⟩, HB4.out.trans (hcut2.out.2.2.mono HB4.out.size)⟩
                    · have HS2 : Hid (joinTo L ((j + 1) + 1) = some (o2.set 0 y, 0 + 1)) := Lib.hid (by rw [HSTEP.out, if_neg (by omega)])
                      have HML2 : Hid (m = (o2.set 0 y).length) := Lib.hid (by rw [List.length_set]; exact HMLEN.out)
                      go_wp2_with fail
                      go_roundw
                      case rel => exact ⟨(j + 1) + 1, (o2.set 0 y, 0 + 1), some ⟨g, 0, none⟩, c2, by omega, by go_num, by go_num, by rw [← HML2.out], Lib.hid ⟨HS2.out, by rw [← HML2.out]; exact hcut2.out.2.1, hcut2.out.2.2⟩⟩
                      case measure => simp [intOf]; omega
        · obtain rfl : k = N := by omega
          have hJ := joinTo_ok HI.out.jto
          have hlen := hJ.len
          simp only at hlen
          have HRV := Lib.hid (reverse54_any w4.heap.size wr (.slice Ao o.length co) o HI.out.own (by omega))
          have HE5 : Hid (R = (o.reverse, 0)) := Lib.hid (by rw [HE2.out, joinOf_some HI.out.jto])
          have HBD := Lib.hid hJ.bd
          clear hJ hlen
          simp only
          go_wp2_with (go_at_call 54; (refine HRV.out.mono ?_); rintro e w5 ⟨rfl, ho, hb⟩; have HO := Lib.hid (And.intro ho hb); clear ho hb)
          go_ret2
          have h1 := OwnI.ints HO.out.1 fun z hz => by
            have := HBD.out z (List.mem_reverse.1 hz)
            omega
          rw [HE5.out]
          exact ⟨⟨_, rfl, h1⟩, HB4.out.trans ((HI.out.below.trans HO.out.2).mono HB4.out.size)⟩
end Go.Proofs
