/- Matrices that grow by rows; Pick, Take, drawn; drawn: the matrix that numbers select; shape and mul; SmithForms; SmithPowers; Arguments opened: lists of numbers, tables, presentations. -/
import Derived.Test.YthfachbkcmifbaaPoCS8
import Derived.Maps.AppendAt
import Derived.Test.YthfachbkcmifbaaPoCS10
import Derived.Deep.RegionHeld3
import Derived.Test.YthfachbkcmifbaaPoCS1
import Derived.ProofKit
import Derived.Deep.Slices
import Derived.Deep.Strs
namespace Go.Proofs
open Go.RowKit Go.Shelf Go.Proofs.Sm
section
variable {base : Nat} {w w' : World} {v : Value} {bl cs : Nat → Nat} {m : Mat}
theorem MatM.same (h : MatM base w v bl cs m) (hv : ∀ r, v.ownBlock = some r → w'.heap[r]? = w.heap[r]?) (hb : ∀ i, i < m.length → w'.heap[bl i]? = w.heap[bl i]?) : MatM base w' v bl cs m :=
  ⟨owns_keep h.out hv, fun i hi => let ⟨a, b, c⟩ := h.row i hi; ⟨a, b.keep (hb i hi), c⟩, h.inj⟩
theorem MatM.row_ty (h : MatM base w v bl cs m) {i : Nat} (hi : i < m.length) : ∃ C, w.heap[bl i]? = some (.cells C 3 (0, 0)) := by
  obtain ⟨-, ⟨C, hC, -⟩, -⟩ := h.row i hi
  exact ⟨C, hC⟩
theorem MatM.nil (base : Nat) (w : World) : MatM base w (.slice none 0 0) (fun _ => 0) (fun _ => 0) [] := ⟨World.ownsRow_nil _ _ _ _, fun _i hi => absurd hi (Nat.not_lt_zero _), fun _i _j hi => absurd hi (Nat.not_lt_zero _)⟩
theorem MatM.form (h : MatM base w v bl cs m) : ∃ A c, v = .slice A m.length c := owns_form h.out
theorem MatM.tab (h : MatM base w v bl cs m) (hf : ∀ y ∈ m, Fits y) : Tab w v m :=
  ⟨_, sl_of_owns h.out, by simp, fun i hi => by
    obtain ⟨-, hX, h1, h2⟩ := h.row i hi
    exact ⟨.slice (some ⟨bl i, 0, none⟩) (m.getD i []).length (cs i), by simp only [List.getElem?_map, List.getElem?_range hi, Option.map_some], hX.ints rfl h1 h2 (hf _ (by rw [List.getD_eq_getElem?_getD, List.getElem?_eq_getElem hi]; exact List.getElem_mem hi))⟩⟩
/-- a block of another type is written -/
theorem MatM.other (h : MatM base w v bl cs m) {b k : Nat} {C : Array Value} {T : TypeId} (hb : w.heap[b]? = some (.cells C T (0, 0))) (h3 : T ≠ 3) (h25 : T ≠ 25) (u : Value) : MatM base (w.setCell ⟨b, k, none⟩ u) v bl cs m := by
  have hne : ∀ p, p ≠ b → (w.setCell ⟨b, k, none⟩ u).heap[p]? = w.heap[p]? := fun p hp => Below.heap_setCell w ⟨b, k, none⟩ u p hp
  refine h.same (fun r hr => hne r fun e => ?_) (fun i hi => hne _ fun e => ?_)
  · obtain ⟨-, C', hC'⟩ := owns_block h.out r hr
    rw [e, hb] at hC'
    injection hC' with h5
    injection h5 with _ h6 _
    exact h25 h6
  · obtain ⟨C', hC'⟩ := h.row_ty hi
    rw [e, hb] at hC'
    injection hC' with h5
    injection h5 with _ h6 _
    exact h3 h6
set_option maxRecDepth 10000 in
/-- a row of the call's own joins -/
theorem MatM.push (h : MatM base w v bl cs m) (hbw : base ≤ w.heap.size) {g c : Nat} {xs : List Int} (hx : XsAt w g xs) (hg : base ≤ g) (hc : xs.length ≤ c) (hcm : c ≤ 9223372036854775807) (hnew : ∀ i, i < m.length → bl i ≠ g) (hl : m.length ≤ 1000000) :
    ∃ A' c' w', (Builtin.append_ #[22, 22] 22 #[v, .slice (some ⟨w.heap.size, 0, none⟩) 1 1]).run Try.prog (w.alloc (.cells #[.slice (some ⟨g, 0, none⟩) xs.length c] 25)) = .ok (.slice A' (m.length + 1) c') w' ∧
      (∃ bl' cs', MatM base w' (.slice A' (m.length + 1) c') bl' cs' (m ++ [xs])) ∧ w.grownBy w' v.ownBlock := by
  obtain ⟨A', c', w', hr, ho, hgr, hw⟩ := run_push (ty := 22) Try.underlying22 info24p rfl (by omega) w base v m.length _ h.out (.slice (some ⟨g, 0, none⟩) xs.length c) rfl (by omega) hbw
  have hkeep : ∀ (p : Nat) (C : Array Value), w.heap[p]? = some (.cells C 3 (0, 0)) → w'.heap[p]? = w.heap[p]? := fun p C hp => hgr.block p (Array.getElem?_eq_some_iff.1 hp).1 (fun e2 => by
    obtain ⟨-, C', hC'⟩ := owns_block h.out p e2.symm
    rw [hp] at hC'
    injection hC' with h5
    injection h5 with _ h6 _
    exact absurd h6 (by decide))
  have hgl : ∀ i, i < m.length → (m ++ [xs]).getD i [] = m.getD i [] := fun i hi => by simp [List.getD_eq_getElem?_getD, List.getElem?_append_left hi]
  have hgl2 : (m ++ [xs]).getD m.length [] = xs := by simp [List.getD_eq_getElem?_getD]
  have hl1 : (m ++ [xs]).length = m.length + 1 := by simp
  obtain ⟨Cx, hCx, -⟩ := id hx
  refine ⟨A', c', w', hr, ⟨fun i => if i = m.length then g else bl i, fun i => if i = m.length then c else cs i, ?_, fun i hi => ?_, fun i j hi hj e => ?_⟩, hgr⟩
  · have e2 : (List.range (m.length + 1)).map (fun i => Value.slice (some ⟨if i = m.length then g else bl i, 0, none⟩) ((m ++ [xs]).getD i []).length (if i = m.length then c else cs i)) = ((List.range m.length).map fun i => Value.slice (some ⟨bl i, 0, none⟩) (m.getD i []).length (cs i)) ++ [.slice (some ⟨g, 0, none⟩) xs.length c] := by
      rw [List.range_succ, List.map_append]
      congr 1
      · refine List.map_congr_left fun i hi => ?_
        have hi' := List.mem_range.1 hi
        rw [if_neg (by omega), if_neg (by omega), hgl i hi']
      · simp only [List.map_cons, List.map_nil, hgl2, if_true]
    rw [hl1, e2]
    exact ho
  · rw [hl1] at hi
    by_cases e : i = m.length
    · subst e
      rw [if_pos rfl, if_pos rfl, hgl2]
      exact ⟨hg, hx.keep (hkeep g Cx hCx), hc, hcm⟩
    · have hi' : i < m.length := by omega
      rw [if_neg e, if_neg e, hgl i hi']
      obtain ⟨a1, a2, a3⟩ := h.row i hi'
      obtain ⟨C, hC⟩ := h.row_ty hi'
      exact ⟨a1, a2.keep (hkeep _ C hC), a3⟩
  · rw [hl1] at hi hj
    by_cases c1 : i = m.length
    · by_cases c2 : j = m.length
      · omega
      · simp only [if_pos c1, if_neg c2] at e
        exact absurd e.symm (hnew j (by omega))
    · by_cases c2 : j = m.length
      · simp only [if_neg c1, if_pos c2] at e
        exact absurd e (hnew i (by omega))
      · simp only [if_neg c1, if_neg c2] at e
        exact h.inj i j (by omega) (by omega) e
end
/-- the number from 0 to n - 1 that a number selects -/
theorem pick19_any (w : World) (x n : Int) (hx : In64 x) (hn : 1 ≤ n) (hn2 : n ≤ 1000) : Calls Try.prog 19 #[.int .i64 x, .int .i64 n] w fun e w' => e = .returned (.int .i64 (x % n)) ∧ w = w' := by
  obtain ⟨hx1, hx2⟩ := hx
  have h1 := Int.emod_nonneg x (show n ≠ 0 by omega)
  have h2 := Int.emod_lt_of_pos x (show 0 < n by omega)
  have hn0 : (n == 0) = false := by rw [beq_eq_false_iff_ne]; omega
  by_cases h0 : 0 ≤ x
  · go_enter Try.func19, Try.ntmps19
    go_wp2_with fail
    go_ret
    exact ⟨rfl, rfl⟩
  · have hm := Int.tmod_eq_emod (a := x) (b := n)
    by_cases hdv : n ∣ x
    · rw [if_pos (.inr hdv)] at hm
      have h3 : x % n = 0 := Int.emod_eq_zero_of_dvd hdv
      have hy : x.tmod n = 0 := by omega
      have HY := Lib.hid h3
      have hd : decide (x.tmod n < 0) = false := decide_eq_false (by omega)
      have HY2 := Lib.hid hy
      have hd2 : 0 ≤ x.tmod n := by omega
      clear hm h3 h1 h2 hy
      generalize x % n = z at *
      go_enter Try.func19, Try.ntmps19
      go_wp2_with fail
      go_ret
      exact ⟨ret_int (by rw [HY2.out, HY.out]), rfl⟩
    · rw [if_neg (by rintro (h | h); exact h0 h; exact hdv h)] at hm
      have h3 : x % n ≠ 0 := fun h => hdv (Int.dvd_of_emod_eq_zero h)
      have hy : x.tmod n = x % n - n := by omega
      have hd : decide (x.tmod n < 0) = true := decide_eq_true (by omega)
      have HY : Hid (x.tmod n + n = x % n) := Lib.hid (by omega)
      have hb1 : -1000 ≤ x.tmod n := by omega
      have hb2 : x.tmod n < 0 := by omega
      clear hm h3 hy h1 h2
      generalize x % n = z at *
      go_enter Try.func19, Try.ntmps19
      go_wp2_with fail
      go_ret
      exact ⟨ret_int HY.out, rfl⟩
/-- a Taker in memory: its list, which lies below its box, and its place -/
structure TkM (b : Nat) (w : World) (A : Option Addr) (c : Nat) (l : List Int) (at_ : Nat) : Prop where
  box : w.heap[b]? = some (.cells #[.slice A l.length c, .int .i64 (at_ : Int)] 39 (0, 0))
  list : ∀ w', (∀ p, p < b → w'.heap[p]? = w.heap[p]?) → IntsAt w' (.slice A l.length c) l
  le : at_ ≤ l.length
theorem TkM.start {w : World} {A : Option Addr} {c : Nat} {l : List Int} (h : IntsAt w (.slice A l.length c) l) : TkM w.heap.size (w.alloc (.cells #[.slice A l.length c, .int .i64 0] 39)) A c l 0 :=
  ⟨heap_alloc_new w _, fun _w' hw => kept_ints _ _ _ _ (fun k hk => (hw k hk).trans (Below.heap_alloc w _ k hk)) h, Nat.zero_le _⟩
theorem TkM.cells {b : Nat} {w : World} {A : Option Addr} {c : Nat} {l : List Int} {k : Nat} (h : TkM b w A c l k) : w.cell? ⟨b, 0, none⟩ = some (.slice A l.length c) ∧ w.cell? ⟨b, 1, none⟩ = some (.int .i64 (k : Int)) ∧ w.frozen? ⟨b, 1, none⟩ = false :=
  ⟨by rw [cell_of_row _ _ _ _ _ _ h.box]; rfl, by rw [cell_of_row _ _ _ _ _ _ h.box]; rfl, by simp [World.frozen?, h.box]⟩
theorem TkM.keep {b : Nat} {w w' : World} {A : Option Addr} {c : Nat} {l : List Int} {k : Nat} (h : TkM b w A c l k) (hb : ∀ p, p ≤ b → w'.heap[p]? = w.heap[p]?) : TkM b w' A c l k :=
  ⟨(hb b (Nat.le_refl _)).trans h.box, fun w'' hw => h.list w'' fun p hp => (hw p hp).trans (hb p (by omega)), h.le⟩
theorem TkM.lt {b : Nat} {w : World} {A : Option Addr} {c : Nat} {l : List Int} {k : Nat} (h : TkM b w A c l k) : b < w.heap.size := (Array.getElem?_eq_some_iff.1 h.box).1
theorem TkM.put {b : Nat} {w : World} {A : Option Addr} {c : Nat} {l : List Int} {k : Nat} (h : TkM b w A c l k) (hk : k < l.length) : TkM b (w.setCell ⟨b, 1, none⟩ (.int .i64 ((k + 1 : Nat) : Int))) A c l (k + 1) :=
  ⟨by rw [box_set h.box]; rfl, fun w' hw => h.list w' fun p hp => (hw p hp).trans (Below.heap_setCell w ⟨b, 1, none⟩ _ p (by show p ≠ b; omega)), hk⟩
/-- the number handed out at k, below n -/
def takeV (l : List Int) (k : Nat) (n : Int) : Int := if k < l.length then l.getD k 0 % n else 0
def takeN (l : List Int) (k : Nat) : Nat := if k < l.length then k + 1 else k
end Go.Proofs
namespace Go.Proofs
open Go.RowKit Go.Shelf Go.Proofs.Sm
/-- the e-th number drawn -/
def dr (l : List Int) (e : Nat) : Int := takeV l (min e l.length) 13 - 6
def drRow (l : List Int) (n i : Nat) : List Int := (List.range n).map fun k => dr l (i * n + k)
def drawnE (l : List Int) (rows n : Nat) : Mat := (List.range rows).map (drRow l n)
theorem take_min (l : List Int) (e : Nat) : takeN l (min e l.length) = min (e + 1) l.length := by
  unfold takeN
  split <;> omega
theorem drawnE_length (l : List Int) (rows n : Nat) : (drawnE l rows n).length = rows := by simp [drawnE]
theorem drRow_length (l : List Int) (n i : Nat) : (drRow l n i).length = n := by simp [drRow]
theorem drawnE_succ (l : List Int) (i n : Nat) : drawnE l (i + 1) n = drawnE l i n ++ [drRow l n i] := by simp [drawnE, List.range_succ]
theorem drPre_succ (l : List Int) (n i k : Nat) : (List.range (k + 1)).map (fun k => dr l (i * n + k)) = (List.range k).map (fun k => dr l (i * n + k)) ++ [dr l (i * n + k)] := by simp [List.range_succ]
/-- w' is w with new blocks and another block b -/
theorem gr_trans {w w1 w2 : World} {b : Nat} (h : w.grownBy w1 (some b)) (h' : w1.grownBy w2 (some b)) : w.grownBy w2 (some b) :=
  ⟨h'.os.trans h.os, h'.tape.trans h.tape, h'.output.trans h.output, Nat.le_trans h.size h'.size, fun i hi hne => (h'.block i (Nat.lt_of_lt_of_le hi h.size) hne).trans (h.block i hi hne)⟩
theorem gr_own {w w1 w2 : World} {b : Nat} {row : Option Nat} (h : w.grownBy w1 (some b)) (h' : w1.grownBy w2 row) (hr : ∀ r, row = some r → w.heap.size ≤ r) : w.grownBy w2 (some b) :=
  ⟨h'.os.trans h.os, h'.tape.trans h.tape, h'.output.trans h.output, Nat.le_trans h.size h'.size, fun i hi hne => (h'.block i (Nat.lt_of_lt_of_le hi h.size) (fun e => by have := hr i e.symm; omega)).trans (h.block i hi hne)⟩
/-- the drawing under way: i rows are whole, the next one has k numbers -/
structure DrawM (b n i k : Nat) (w wr : World) (At : Option Addr) (ct : Nat) (l : List Int) (v : Value) (bl cs : Nat → Nat) (vr : Value) : Prop where
  mat : MatM w.heap.size wr v bl cs (drawnE l i n)
  row : OwnI w.heap.size wr vr ((List.range k).map fun k => dr l (i * n + k))
  sep : ∀ j, j < i → vr.ownBlock ≠ some (bl j)
  tk : TkM b wr At ct l (min (i * n + k) l.length)
  gr : w.grownBy wr (some b)
theorem DrawM.sepv {b n i k : Nat} {w wr : World} {At : Option Addr} {ct : Nat} {l : List Int} {v : Value} {bl cs : Nat → Nat} {vr : Value} (h : DrawM b n i k w wr At ct l v bl cs vr) : ∀ r, v.ownBlock = some r → vr.ownBlock ≠ some r := fun r hr e => by
  obtain ⟨-, C, hC⟩ := owns_block h.mat.out r hr
  obtain ⟨-, C', hC'⟩ := owns_block h.row r e
  rw [hC] at hC'
  injection hC' with h5
  injection h5 with _ h6 _
  exact absurd h6 (by decide)
/-- a number is taken -/
theorem DrawM.taken {b n i k : Nat} {w wr w1 : World} {At : Option Addr} {ct : Nat} {l : List Int} {v : Value} {bl cs : Nat → Nat} {vr : Value} (h : DrawM b n i k w wr At ct l v bl cs vr) (hb : b < w.heap.size) (htk : TkM b w1 At ct l (takeN l (min (i * n + k) l.length))) (hg : wr.grownBy w1 (some b)) :
    MatM w.heap.size w1 v bl cs (drawnE l i n) ∧ OwnI w.heap.size w1 vr ((List.range k).map fun k => dr l (i * n + k)) ∧ TkM b w1 At ct l (min (i * n + (k + 1)) l.length) ∧ w.grownBy w1 (some b) := by
  refine ⟨h.mat.same (fun r hr => ?_) (fun j hj => ?_), owns_keep h.row fun r hr => ?_, by rw [take_min] at htk; exact htk, gr_trans h.gr hg⟩
  · have h1 := h.mat.lt.2 r hr
    exact hg.block r h1.2 (fun e => by have := Option.some.inj e; omega)
  · have h1 := h.mat.lt.1 j hj
    have h2 := (h.mat.row j hj).1
    exact hg.block _ h1 (fun e => by have := Option.some.inj e; omega)
  · have h1 := (owns_block h.row r hr).1
    exact hg.block r (owns_lt h.row hr) (fun e => by have := Option.some.inj e; omega)
/-- the number joins the row -/
theorem DrawM.add {b n i k : Nat} {w wr w1 : World} {At : Option Addr} {ct : Nat} {l : List Int} {v : Value} {bl cs : Nat → Nat} {vr : Value} (h : DrawM b n i k w wr At ct l v bl cs vr) (hb : b < w.heap.size) (htk : TkM b w1 At ct l (takeN l (min (i * n + k) l.length))) (hg : wr.grownBy w1 (some b)) (hk : k ≤ 1000) :
    ∃ A' c' w', (Builtin.append_ #[25, 25] 25 #[vr, .slice (some ⟨w1.heap.size, 0, none⟩) 1 1]).run Try.prog (w1.alloc (.cells #[.int .i64 (dr l (i * n + k))] 3)) = .ok (.slice A' (k + 1) c') w' ∧ DrawM b n i (k + 1) w w' At ct l v bl cs (.slice A' (k + 1) c') := by
  obtain ⟨h1, h2, h3, h4⟩ := h.taken hb htk hg
  have hlen : ((List.range k).map fun k => dr l (i * n + k)).length = k := by simp
  obtain ⟨A', c', w', hr, ho, hgr, hw⟩ := push_int 25 25 Try.underlying25 w1 w.heap.size vr _ h2 (dr l (i * n + k)) (by rw [hlen]; omega) h4.size
  rw [hlen] at hr ho hw
  rw [← drPre_succ] at ho
  have hrow := owns_block h2
  refine ⟨A', c', w', hr, h1.same (fun r hr' => hgr.block r (h1.lt.2 r hr').2 (fun e => h.sepv r hr' e.symm)) (fun j hj => hgr.block _ (h1.lt.1 j hj) (fun e => h.sep j (by rw [drawnE_length] at hj; exact hj) e.symm)), ho, fun j hj e => ?_, h3.keep fun p hp => hgr.block p (by have := h4.size; omega) (fun e => by have := (hrow p e.symm).1; omega), gr_own h4 hgr fun r hr' => (hrow r hr').1⟩
  rcases hw with hw | ⟨r, hr', hge⟩
  · exact h.sep j hj (by rw [← hw]; exact e)
  · rw [hr'] at e
    have e2 := Option.some.inj e
    have := h1.lt.1 j (by rw [drawnE_length]; exact hj)
    omega
/-- the row joins the matrix -/
theorem DrawM.done {b n i : Nat} {w wr : World} {At : Option Addr} {ct : Nat} {l : List Int} {A : Option Addr} {c : Nat} {v : Value} {bl cs : Nat → Nat} (h : DrawM b n i n w wr At ct l v bl cs (.slice A n c)) (hb : b < w.heap.size) (hn : 1 ≤ n) (hi : i ≤ 1000) :
    ∃ A' c' w' bl' cs', (Builtin.append_ #[22, 22] 22 #[v, .slice (some ⟨wr.heap.size, 0, none⟩) 1 1]).run Try.prog (wr.alloc (.cells #[.slice A n c] 25)) = .ok (.slice A' (i + 1) c') w' ∧ MatM w.heap.size w' (.slice A' (i + 1) c') bl' cs' (drawnE l (i + 1) n) ∧ TkM b w' At ct l (min ((i + 1) * n) l.length) ∧ w.grownBy w' (some b) := by
  have hrow : OwnI w.heap.size wr (.slice A (drRow l n i).length c) (drRow l n i) := by
    rw [drRow_length]; exact h.row
  obtain ⟨g, rfl, hx, hg, hc1, hc2⟩ := owns_xs hrow (by rw [drRow_length]; exact hn)
  obtain ⟨A', c', w', hr, ⟨bl', cs', hm⟩, hgr⟩ := h.mat.push h.gr.size hx hg hc1 hc2 (fun j hj e => h.sep j (by rw [drawnE_length] at hj; exact hj) (by show some g = some (bl j); rw [e])) (by rw [drawnE_length]; omega)
  rw [drawnE_length, drRow_length] at hr
  rw [drawnE_length, ← drawnE_succ] at hm
  have hv := owns_block h.mat.out
  refine ⟨A', c', w', bl', cs', hr, hm, ?_, gr_own h.gr hgr fun r hr' => (hv r hr').1⟩
  have htk := h.tk
  rw [show i * n + n = (i + 1) * n by rw [Nat.add_mul]; omega] at htk
  exact htk.keep fun p hp => hgr.block p (by have := h.gr.size; omega) (fun e => by have := (hv p e.symm).1; omega)
end Go.Proofs
namespace Go.Proofs
open Go.RowKit Go.Shelf Go.Proofs.Sm
/-- a product under way -/
structure MulM (g i : Nat) (w wr : World) (a b : Mat) (n : Nat) (v : Value) (bl cs : Nat → Nat) (xs : List Int) : Prop where
  mat : MatM w.heap.size wr v bl cs ((mulW n a b).take i)
  row : XsAt wr g xs
  ge : w.heap.size ≤ g
  sep : ∀ j, j < ((mulW n a b).take i).length → bl j ≠ g
  below : Below w.heap.size w wr
theorem MulM.set {g i : Nat} {w wr : World} {a b : Mat} {n : Nat} {v : Value} {bl cs : Nat → Nat} {xs : List Int} (h : MulM g i w wr a b n v bl cs xs) {k : Nat} (hk : k < xs.length) (z : Int) : MulM g i w (wr.setCell ⟨g, k, none⟩ (.int .i64 z)) a b n v bl cs (xs.set k z) := by
  obtain ⟨C, hC, -⟩ := id h.row
  have hne : ∀ p, p ≠ g → (wr.setCell ⟨g, k, none⟩ (.int .i64 z)).heap[p]? = wr.heap[p]? := fun p hp => Below.heap_setCell wr ⟨g, k, none⟩ _ p hp
  refine ⟨h.mat.same (fun r hr => hne r fun e => ?_) (fun j hj => hne _ (h.sep j hj)), h.row.set hk z, h.ge, h.sep, h.below.setCell (p := ⟨g, k, none⟩) h.ge _⟩
  obtain ⟨-, C', hC'⟩ := owns_block h.mat.out r hr
  rw [e, hC] at hC'
  injection hC' with h5
  injection h5 with _ h6 _
  exact absurd h6 (by decide)
theorem MulM.drew {g i : Nat} {w wr : World} {a b : Mat} {n : Nat} {v : Value} {bl cs : Nat → Nat} {xs : List Int} (h : MulM g i w wr a b n v bl cs xs) (q : Nat) : MulM g i w (wr.drewN q) a b n v bl cs xs := ⟨h.mat.same (fun _ _ => rfl) (fun _ _ => rfl), h.row.keep rfl, h.ge, h.sep, below_drewN h.below q⟩
end Go.Proofs
namespace Go.Proofs
open Go.RowKit Go.Shelf Go.Proofs.Sm
def YesPost (w : World) (e : Ending) (w' : World) : Prop := e = .returned (.bool true) ∧ Below w.heap.size w w'
end Go.Proofs
namespace Go.Proofs
open Go.RowKit Go.Shelf Go.Proofs.Sm
theorem prs_drop {w : World} {b o c : Nat} {ps : List Pr} (h : PrsAt w (.slice (some ⟨b, o, none⟩) ps.length c) ps) {k : Nat} (hk : k ≤ ps.length) : PrsAt w (.slice (some ⟨b, o + k * 2, none⟩) (ps.length - k) (c - k)) (ps.drop k) := by
  obtain ⟨A, cap, e, h1, h2, h3⟩ := h
  injection e with e1 e2 e3
  subst e3
  refine ⟨_, _, by rw [List.length_drop], by rw [List.length_drop]; omega, by omega, fun h0 => ?_⟩
  rw [List.length_drop] at h0
  obtain ⟨b', o', e4, h5⟩ := h3 (by omega)
  rw [← e1] at e4
  cases e4
  refine ⟨b, o + k * 2, rfl, fun j u hu => ?_⟩
  have hsplit : pcells ps = pcells (ps.take k) ++ pcells (ps.drop k) := by rw [← pcells_app, List.take_append_drop]
  have hlen : (pcells (ps.take k)).length = k * 2 := by rw [pcells_length, List.length_take]; congr 1; omega
  rw [Nat.add_assoc]
  refine h5 (k * 2 + j) u ?_
  rw [hsplit, List.getElem?_append_right (by omega), hlen, Nat.add_sub_cancel_left]
  exact hu
theorem prs_take {w : World} {b o c : Nat} {ps : List Pr} (h : PrsAt w (.slice (some ⟨b, o, none⟩) ps.length c) ps) {k : Nat} (hk : k ≤ ps.length) : PrsAt w (.slice (some ⟨b, o, none⟩) k c) (ps.take k) := by
  obtain ⟨A, cap, e, h1, h2, h3⟩ := h
  injection e with e1 e2 e3
  subst e3
  have hlt : (ps.take k).length = k := by rw [List.length_take]; omega
  refine ⟨_, _, by rw [hlt], by rw [hlt]; omega, h2, fun h0 => ?_⟩
  rw [hlt] at h0
  obtain ⟨b', o', e4, h5⟩ := h3 (by omega)
  rw [← e1] at e4
  cases e4
  refine ⟨b, o, rfl, fun j u hu => h5 j u ?_⟩
  have hsplit : pcells ps = pcells (ps.take k) ++ pcells (ps.drop k) := by rw [← pcells_app, List.take_append_drop]
  have hj := (List.getElem?_eq_some_iff.1 hu).1
  rw [hsplit, List.getElem?_append_left hj]
  exact hu
theorem srt_fits {Vs : List Vec} (h : Chain Vs) : PFits (srt Vs) := fun x hx => by
  obtain ⟨p, hp, V, hV, h1, h2, h3⟩ := srt_mem hx
  have hpb : p ≤ 11 := by
    simp only [P5, List.mem_cons, List.not_mem_nil, or_false] at hp
    omega
  have hv : V p ≤ 1000000000 := by
    have h4 := h.bd V hV
    have h5 : V p < p ^ V p := Nat.lt_pow_self (by have := (P5_prm p hp).1; omega)
    have h6 : p ^ V p ∣ val V := by
      rw [val_eq]
      simp only [P5, List.mem_cons, List.not_mem_nil, or_false] at hp
      rcases hp with rfl | rfl | rfl | rfl | rfl
      · exact Nat.dvd_mul_right _ _
      · exact Nat.dvd_trans (Nat.dvd_mul_right _ _) (Nat.dvd_mul_left _ _)
      · exact Nat.dvd_trans (Nat.dvd_trans (Nat.dvd_mul_right _ _) (Nat.dvd_mul_left _ _)) (Nat.dvd_mul_left _ _)
      · exact Nat.dvd_trans (Nat.dvd_trans (Nat.dvd_trans (Nat.dvd_mul_right _ _) (Nat.dvd_mul_left _ _)) (Nat.dvd_mul_left _ _)) (Nat.dvd_mul_left _ _)
      · exact Nat.dvd_trans (Nat.dvd_trans (Nat.dvd_trans (Nat.dvd_trans (Nat.dvd_mul_right _ _) (Nat.dvd_mul_left _ _)) (Nat.dvd_mul_left _ _)) (Nat.dvd_mul_left _ _)) (Nat.dvd_mul_left _ _)
    have h7 := Nat.le_of_dvd (val_pos V) h6
    omega
  exact ⟨⟨by omega, by omega⟩, ⟨by omega, by omega⟩⟩
set_option maxRecDepth 100000 in
theorem powers_long (w : World) (v : Value) (l : List Int) (x : Int) (h : IntsAt w v l) (hl : 6 < l.length) : Calls Try.prog 7 #[v, .int .i64 x] w (YesPost w) := by
  have HL := Lib.hid (lives9_any w)
  obtain ⟨A, c, rfl, h1, h2, -⟩ := h.open_
  have hd : (6 : Int) < (l.length : Int) := by omega
  clear h
  go_enter Try.func7, Try.ntmps7
  go_wp2_with (go_at_call 9; (refine HL.out.mono ?_); rintro e w1 ⟨rfl, hb⟩; have HB := Lib.hid hb; clear hb)
  go_ret
  exact ⟨rfl, HB.out⟩
set_option maxRecDepth 100000 in
set_option maxHeartbeats 8000000 in
theorem powers_short (w : World) (v : Value) (l : List Int) (x : Int) (h : IntsAt w v l) (hx : In64 x) (hl : l.length ≤ 6) : Calls Try.prog 7 #[v, .int .i64 x] w (YesPost w) := by
  have HL := Lib.hid (lives9_any w)
  have HI := Lib.hid h
  have HPK : Hid (∀ i W, i < l.length → Calls Try.prog 19 #[.int .i64 (l.getD i 0), .int .i64 12] W fun e w' => e = .returned (.int .i64 (l.getD i 0 % 12)) ∧ W = w') := Lib.hid fun i W hi => pick19_any W _ 12 (h.2.at_ i) (by omega) (by omega)
  obtain ⟨A, c, rfl, h1, h2, hcc⟩ := h.open_
  have hd : ¬ (6 : Int) < (l.length : Int) := by omega
  have hlb : (l.length : Int) ≤ 6 := by omega
  have HCC := Lib.hid hcc
  have HPX := Lib.hid fun W n h1 h2 => pick19_any W x n hx h1 h2
  clear h hcc hx
  go_enter Try.func7, Try.ntmps7
  go_wp2_with (go_at_call 9; (refine HL.out.mono ?_); rintro e w1 ⟨rfl, hb⟩; have HB := Lib.hid hb; clear hb)
  go_loopw [5, 6, 7] (fun zt zl zi wr => ∃ (k m : Nat) (A : Option Addr) (c : Nat), k ≤ l.length ∧ zi = .int .i64 k ∧ zl = .int .i64 (lastN l k : Int) ∧ zt = .slice A m c ∧ Hid (OwnI w1.heap.size wr (.slice A m c) (tor l k) ∧ m = (tor l k).length ∧ Below w1.heap.size w1 wr)) (fun _ _ zi _ => l.length - (intOf zi).toNat)
  case atStart => exact ⟨0, 0, none, 0, by omega, rfl, rfl, rfl, Lib.hid ⟨World.ownsRow_nil _ _ _ _, rfl, Below.refl _ _⟩⟩
  case round =>
    obtain ⟨k, m, At, ct, hk, rfl, rfl, rfl, HQ⟩ := hrel
    have hk0 : (0 : Int) ≤ (k : Int) := Int.natCast_nonneg _
    by_cases hkl : k < l.length
    · have hkl' : (k : Int) < (l.length : Int) := by omega
      obtain ⟨bo, oo, rfl, hcell⟩ := HCC.out (by omega)
      have hy := hcell k hkl
      have hy2 := ((HB.out.trans (HQ.out.2.2.mono HB.out.size)).cell (p := ⟨bo, oo + k, none⟩) (World.block_lt_of_cell? w _ hy)).trans hy
      obtain ⟨hl1, hl2⟩ := last_bd (l := l) (k := k) hk
      have hlsu := last_succ hkl
      have htsu := tor_succ hkl
      obtain ⟨hc1, hc2, hc3⟩ := c_bd (l.getD k 0)
      have h12 : 12 ^ k ≤ 2985984 := Nat.le_trans (Nat.pow_le_pow_right (by decide) (show k ≤ 6 by omega)) (by decide)
      have hmul : lastN l k * (1 + l.getD k 0 % 12).toNat ≤ 2985984 * 12 := Nat.mul_le_mul (by omega) hc3
      have HP := Lib.hid fun W => HPK.out k W hkl
      have hlen := tor_len l k hk
      clear hcell hy
      rw [← hlsu] at hmul
      have hprod : ((lastN l k : Nat) : Int) * (1 + l.getD k 0 % 12) = ((lastN l (k + 1) : Nat) : Int) := by rw [hlsu, Int.natCast_mul, hc1]
      have HSU := Lib.hid htsu
      clear htsu hlsu hc1 hc2 hc3 h12 hl2
      generalize hbe : lastN l (k + 1) = b at *
      have HBE := Lib.hid hbe
      clear hbe
      have hla : ((lastN l k : Nat) : Int) ≤ 2985984 * 12 := by
        have := last_bd (l := l) (k := k) hk
        have h12 : 12 ^ k ≤ 2985984 := Nat.le_trans (Nat.pow_le_pow_right (by decide) (show k ≤ 6 by omega)) (by decide)
        omega
      generalize lastN l k = a at *
      have hb1 := Int.emod_nonneg (l.getD k 0) (show (12 : Int) ≠ 0 by omega)
      have hb2 := Int.emod_lt_of_pos (l.getD k 0) (show (0 : Int) < 12 by omega)
      generalize l.getD k 0 = y at *
      generalize y % 12 = z at *
      have hw1 : IntKind.i64.wrap (1 + z) = 1 + z := IntWalk.i64_in _ (by omega)
      have hw2 : IntKind.i64.wrap ((a : Int) * (1 + z)) = (b : Int) := by rw [hprod]; exact IntWalk.i64_in _ (by omega)
      by_cases hb : 1 < b
      · have hbi : (1 : Int) < (b : Int) := by omega
        obtain ⟨A', c', w8, hr8, ho8, hg8, -⟩ := push_int 25 25 Try.underlying25 wr w1.heap.size (.slice At m ct) _ HQ.out.1 (b : Int) (by omega) HQ.out.2.2.size
        rw [← HQ.out.2.1] at hr8 ho8
        have HR8 := Lib.hid hr8
        have HN : Hid (OwnI w1.heap.size w8 (.slice A' (m + 1) c') (tor l (k + 1)) ∧ m + 1 = (tor l (k + 1)).length ∧ Below w1.heap.size w1 w8) := Lib.hid (by
          rw [HSU.out, if_pos hb]
          exact ⟨ho8, by rw [List.length_append, ← HQ.out.2.1]; rfl, HQ.out.2.2.grown hg8 HQ.out.2.2.size (fun r hr => (owns_block HQ.out.1 r hr).1)⟩)
        clear hr8 ho8 hg8 hprod
        go_wp2_with (first
          | (go_at_call 19; (refine (HP.out _).mono ?_); rintro e w' ⟨rfl, rfl⟩)
          | ((with_reducible refine wpList_sel 41 ?_); refine wpList_val rfl (r_app (.tmp 38) (.tmp 40) 25 rfl rfl rfl HR8.out) ?_))
        go_roundw
        case rel => exact ⟨k + 1, m + 1, A', c', by omega, by go_num, by rw [HBE.out], rfl, HN⟩
        case measure => simp [intOf]; omega
      · have hbi : ¬ (1 : Int) < (b : Int) := by omega
        have HN : Hid (OwnI w1.heap.size wr (.slice At m ct) (tor l (k + 1)) ∧ m = (tor l (k + 1)).length ∧ Below w1.heap.size w1 wr) := Lib.hid (by
          rw [HSU.out, if_neg hb, List.append_nil]
          exact HQ.out)
        clear hprod
        go_wp2_with (go_at_call 19; (refine (HP.out _).mono ?_); rintro e w' ⟨rfl, rfl⟩)
        go_roundw
        case rel => exact ⟨k + 1, m, At, ct, by omega, by go_num, by rw [HBE.out], rfl, HN⟩
        case measure => simp [intOf]; omega
    · obtain rfl : k = l.length := by omega
      have HLAW := Lib.hid (tor_law l hl)
      obtain ⟨Vs, hT, hch, hVl, hpow, hjoin⟩ := HLAW.out
      have hfits : Fits (tor l l.length) := fun z hz => by
        rw [hT] at hz
        obtain ⟨V, hV, rfl⟩ := List.mem_map.1 hz
        have := hch.bd V hV
        omega
      have hown := HQ.out.1
      have hmT := HQ.out.2.1
      rw [hmT] at hown
      have hints : IntsAt wr (.slice At (tor l l.length).length ct) (tor l l.length) := OwnI.ints hown hfits
      have h27 := powers27_any wr _ _ hints
      rw [hpow, ← hmT] at h27
      rw [← hmT] at hints
      have H27 := Lib.hid h27
      have HSORT := Lib.hid (List.pairwise_iff_getElem.1 (srt_sorted hch.le))
      have HFIT := Lib.hid (srt_fits hch)
      have hlen := srt_len Vs
      have HTL := Lib.hid hmT
      have HWB := Lib.hid (HB.out.trans (HQ.out.2.2.mono HB.out.size))
      have HINT := Lib.hid hints
      have HJN := Lib.hid hjoin
      clear h27 hT hch hpow hjoin hfits hown hmT hints HLAW HQ HCC HPK HI
      generalize srt Vs = ps at *
      generalize tor l l.length = T at *
      obtain ⟨L, hL⟩ : ∃ L, L = ps.length := ⟨_, rfl⟩
      have hLb : L ≤ 30 := by omega
      have HLN := Lib.hid hL
      go_wp2_with fail
      refine H27.out.mono ?_
      rintro e w5 ⟨⟨Ap, cp, rfl, hop⟩, hb5⟩
      have hprs := OwnP.prs hop
      rw [← hL] at hprs ⊢
      have HB1 := Lib.hid (HWB.out.trans (hb5.mono HWB.out.size))
      have HT : Hid (∀ W, Below w5.heap.size w5 W → IntsAt W (.slice At m ct) T) := Lib.hid fun W hW => kept_ints.below HINT.out (hb5.trans (hW.mono hb5.size))
      have HPRS := Lib.hid hprs
      have HJP : Hid (∀ W, Below w5.heap.size w5 W → Calls Try.prog 29 #[.slice Ap L cp] W (JoinPost (T, 0) W)) := Lib.hid fun W hW => by
        have h := join29_any W (.slice Ap L cp) ps (HPRS.out.below hW) HFIT.out
        rw [HJN.out ps (List.Perm.refl _)] at h
        exact h
      obtain ⟨A9, c9, e9, f1, f2, hpc⟩ := hprs.at_
      rw [← hL] at e9 f1 hpc
      injection e9 with e1 e2 e3
      subst e1 e3
      have HPC := Lib.hid hpc
      clear hop hb5 hprs hpc e2 hL H27 HINT HWB
      have hLi : (L : Int) ≤ 30 := by omega
      go_wp2_with fail
      go_loopw [10] (fun z wr => ∃ i : Nat, i ≤ L ∧ z = .int .i64 i ∧ ∃ q, wr = w5.drewN q) (fun z _ => L - (intOf z).toNat)
      case atStart => exact ⟨0, by omega, rfl, 0, rfl⟩
      case round =>
        obtain ⟨i, hi, rfl, q, rfl⟩ := hrel
        have hi0 : (0 : Int) ≤ (i : Int) := Int.natCast_nonneg _
        have hib : (i : Int) ≤ 30 := by omega
        by_cases hil : i + 1 < L
        · have hil' : (i : Int) + 1 < (L : Int) := by omega
          have hiL : (i : Int) < (L : Int) := by omega
          have hi1 : (0 : Int) ≤ (i : Int) + 1 := by omega
          obtain ⟨bp, op, rfl, hcc⟩ := HPC.out (by omega)
          obtain ⟨y1, y2⟩ := hcc i (by omega)
          obtain ⟨y3, y4⟩ := hcc (i + 1) hil
          have hs := HSORT.out i (i + 1) (by rw [← HLN.out]; omega) (by rw [← HLN.out]; omega) (by omega)
          have e1 : ps.getD i (0, 0) = ps[i]'(by rw [← HLN.out]; omega) := by rw [List.getD_eq_getElem?_getD, List.getElem?_eq_getElem (by rw [← HLN.out]; omega)]; rfl
          have e2 : ps.getD (i + 1) (0, 0) = ps[i + 1]'(by rw [← HLN.out]; omega) := by rw [List.getD_eq_getElem?_getD, List.getElem?_eq_getElem (by rw [← HLN.out]; omega)]; rfl
          rw [← e1, ← e2] at hs
          clear hcc e1 e2
          generalize ps.getD i (0, 0) = x at *
          generalize ps.getD (i + 1) (0, 0) = y at *
          obtain ⟨x1, x2⟩ := x
          obtain ⟨z1, z2⟩ := y
          unfold leP at hs
          rw [decide_eq_true_iff] at hs
          simp only at y1 y2 y3 y4 hs
          have hw1 : IntKind.i64.wrap ((i : Int) + 1) = (i : Int) + 1 := IntWalk.i64_in _ (by omega)
          by_cases hxz : x1 = z1
          · subst hxz
            have hd1 : (x1 == x1) = true := by simp
            have hd2 : decide (z2 < x2) = false := decide_eq_false (by omega)
            clear hs
            go_wp2_with fail
            go_quiet (fail)
            go_wp2_with fail
            go_roundw
            case rel => exact ⟨i + 1, by omega, by go_num, (by first | exact ⟨_, rfl⟩ | exact ex_drewN)⟩
            case measure => simp [intOf]; omega
          · have hd1 : (x1 == z1) = false := by simpa using hxz
            have hd2 : decide (z1 < x1) = false := decide_eq_false (by omega)
            clear hs hxz
            go_wp2_with fail
            go_quiet (fail)
            go_wp2_with fail
            go_roundw
            case rel => exact ⟨i + 1, by omega, by go_num, (by first | exact ⟨_, rfl⟩ | exact ex_drewN)⟩
            case measure => simp [intOf]; omega
        · have hil' : ¬ (i : Int) + 1 < (L : Int) := by omega
          rcases Nat.eq_zero_or_pos L with hL0 | hL0
          · subst hL0
            have HJQ : Hid (∀ {W0 : World} (W : World), Below W0.heap.size W0 W → Calls Try.prog 29 #[.slice none 0 0] W (JoinPost (T, 0) W)) := Lib.hid fun W _ => by
              have hnil : ps = [] := List.length_eq_zero_iff.1 HLN.out.symm
              have h := join29_any W (.slice none 0 0) [] (prsAt_nil W) (fun p hp => by cases hp)
              rw [HJN.out [] (by rw [hnil])] at h
              exact h
            go_wp2_with (first
              | (go_at_call 29; (with_reducible refine (HJP.out _ (below_drewN (Below.refl w5.heap.size w5) q)).mono ?_); rintro e w6 ⟨⟨va, rfl, ha⟩, hb⟩; have HB6 := Lib.hid ((below_drewN (Below.refl w5.heap.size w5) q).trans (hb.mono (below_drewN (Below.refl w5.heap.size w5) q).size)); have HA := Lib.hid ha; have HK6 := Lib.hid hb; obtain ⟨Aa, ca, rfl, -, -, -⟩ := ha.open_; clear ha hb)
              | (go_at_call 29
                 (with_reducible refine (HJQ.out _ HK6.out).mono ?_)
                 rintro e w7 ⟨⟨vb, rfl, hvb⟩, hb⟩
                 have HB7 := Lib.hid (HB6.out.trans (hb.mono HB6.out.size))
                 have hTq := HT.out w7 HB7.out
                 have H17a := Lib.hid (same17_any w7 _ _ _ _ (kept_ints.below HA.out hb) hTq)
                 have H17b := Lib.hid fun q => same17_any (w7.drewN q) _ _ _ _ (hvb.drewN q) (hTq.drewN q)
                 rw [decide_eq_true rfl] at H17a H17b
                 obtain ⟨Ab, cb, rfl, -, -, -⟩ := hvb.open_
                 clear hvb hb hTq)
              | (go_at_call 17; (with_reducible refine H17a.out.mono ?_); rintro e w' ⟨rfl, q1, rfl⟩; simp only)
              | (go_at_call 17; (with_reducible refine (H17b.out _).mono ?_); rintro e w' ⟨rfl, q2, rfl⟩; simp only [World.drewN_drewN]))
            go_ret
            exact ⟨rfl, HB1.out.trans ((below_drewN HB7.out _).mono HB1.out.size)⟩
          · have hL0' : (0 : Int) < (L : Int) := by omega
            obtain ⟨bp, op, rfl, -⟩ := HPC.out hL0
            have hm1 := Int.emod_nonneg x (show (L : Int) ≠ 0 by omega)
            have hm2 := Int.emod_lt_of_pos x hL0'
            obtain ⟨k, hk⟩ : ∃ k : Nat, x % (L : Int) = (k : Int) := ⟨(x % (L : Int)).toNat, by omega⟩
            have HPK2 := Lib.hid fun W => HPX.out W (L : Int) (by omega) (by omega)
            rw [hk] at HPK2 hm2
            have hkL : k < L := by omega
            have hkc : (k : Int) ≤ (cp : Int) := by omega
            have hne : cp ≠ k := by omega
            have hkz : (0 : Int) ≤ (k : Int) := Int.natCast_nonneg _
            have hkl1 : (k : Int) ≤ (L : Int) := by omega
            have hlc1 : (L : Int) ≤ (cp : Int) := by omega
            have hne0 : cp ≠ 0 := by omega
            have HOWN : Hid (∀ W, Below w5.heap.size w5 W → Calls Try.prog 28 #[.slice (some ⟨bp, op + k * 2, none⟩) (L - k) (cp - k)] W fun e w' => ∃ A1 c1, e = .returned (.slice A1 (L - k) c1) ∧ ∃ A2 c2 w2, (Builtin.append_ #[53, 53] 53 #[.slice A1 (L - k) c1, .slice (some ⟨bp, op, none⟩) k cp]).run Try.prog w' = .ok (.slice A2 L c2) w2 ∧ Hid (PrsAt w2 (.slice A2 L c2) (ps.drop k ++ ps.take k) ∧ Below w5.heap.size w5 w2)) := Lib.hid fun W hW => by
              have hp := HPRS.out.below hW
              rw [HLN.out] at hp
              have hdr := prs_drop hp (k := k) (by rw [← HLN.out]; omega)
              have hdl : (ps.drop k).length = L - k := by rw [List.length_drop, ← HLN.out]
              have h := own28_any W _ (ps.drop k) hdr (by omega)
              rw [← HLN.out] at h
              refine h.mono fun e w' ⟨A1, c1, h1, h2, h3⟩ => ?_
              rw [hdl] at h1 h2
              have htk := (prs_take hp (k := k) (by rw [← HLN.out]; omega)).below h3
              have h2' : OwnP W.heap.size w' (.slice A1 (L - k) c1) (ps.drop k) := h2
              obtain ⟨A2, c2, w2, p1, p2, p3, -⟩ := run_append_prs (ps := ps.drop k) (qs := ps.take k) _ h2' htk (by omega) (by rw [List.length_take]; omega) h3.size
              have hll : (ps.drop k ++ ps.take k).length = L := by rw [List.length_append, hdl, List.length_take, ← HLN.out]; omega
              rw [hll] at p1 p2
              exact ⟨A1, c1, h1, A2, c2, w2, p1, Lib.hid ⟨OwnP.prs p2, (hW.trans (h3.mono hW.size)).grown p3 (Nat.le_trans hW.size h3.size) (fun r hr => Nat.le_trans hW.size (OwnP.block h2' r hr).1)⟩⟩
            clear hm1 hk
            go_wp2_with (go_at_call 19; (refine (HPK2.out _).mono ?_); rintro e w' ⟨rfl, rfl⟩)
            go_region_held3 (fun _ => True) (first | trivial | go_keep)
              (first
                | (go_at_call 28; (refine (HOWN.out _ (below_drew (below_drewN (Below.refl _ _) _))).mono ?_); rintro e w6 ⟨A1, c1, rfl, A2, c2, w62, hr2, hN⟩; have HR2 := Lib.hid hr2; have HN := hN; clear hr2 hN)
                | (refine step_sel 110 ?_; refine step_val rfl (r_app (.tmp 106) (.tmp 109) 53 rfl rfl rfl HR2.out) ?_))
            have HBQ := Lib.hid HN.out.2
            have HJQ : Hid (∀ {W0 : World} (W : World), Below W0.heap.size W0 W → Below w62.heap.size w62 W → Calls Try.prog 29 #[.slice A2 L c2] W (JoinPost (T, 0) W)) := Lib.hid fun W _ hW => by
              have h := join29_any W (.slice A2 L c2) (ps.drop k ++ ps.take k) (HN.out.1.below hW) (fun p hp => HFIT.out p (by
                rcases List.mem_append.1 hp with h | h
                · exact List.mem_of_mem_drop h
                · exact List.mem_of_mem_take h))
              rw [HJN.out _ (List.perm_append_comm.trans (by rw [List.take_append_drop]))] at h
              exact h
            go_wp2_with (first
              | (go_at_call 29; (with_reducible refine (HJP.out _ HBQ.out).mono ?_); rintro e w6 ⟨⟨va, rfl, ha⟩, hb⟩; have HB6 := Lib.hid (HBQ.out.trans (hb.mono HBQ.out.size)); have HA := Lib.hid ha; have HK6 := Lib.hid hb; obtain ⟨Aa, ca, rfl, -, -, -⟩ := ha.open_; clear ha hb)
              | (go_at_call 29
                 (with_reducible refine (HJQ.out _ HK6.out HK6.out).mono ?_)
                 rintro e w7 ⟨⟨vb, rfl, hvb⟩, hb⟩
                 have HB7 := Lib.hid (HB6.out.trans (hb.mono HB6.out.size))
                 have hTq := HT.out w7 HB7.out
                 have H17a := Lib.hid (same17_any w7 _ _ _ _ (kept_ints.below HA.out hb) hTq)
                 have H17b := Lib.hid fun q => same17_any (w7.drewN q) _ _ _ _ (hvb.drewN q) (hTq.drewN q)
                 rw [decide_eq_true rfl] at H17a H17b
                 obtain ⟨Ab, cb, rfl, -, -, -⟩ := hvb.open_
                 clear hvb hb hTq)
              | (go_at_call 17; (with_reducible refine H17a.out.mono ?_); rintro e w' ⟨rfl, q1, rfl⟩; simp only)
              | (go_at_call 17; (with_reducible refine (H17b.out _).mono ?_); rintro e w' ⟨rfl, q2, rfl⟩; simp only [World.drewN_drewN]))
            go_ret
            exact ⟨rfl, HB1.out.trans ((below_drewN HB7.out _).mono HB1.out.size)⟩
theorem powers7_any (w : World) (v : Value) (l : List Int) (x : Int) (h : IntsAt w v l) (hx : In64 x) : Calls Try.prog 7 #[v, .int .i64 x] w (YesPost w) := by
  by_cases hl : 6 < l.length
  · exact powers_long w v l x h hl
  · exact powers_short w v l x h hx (by omega)
end Go.Proofs
namespace Go.Proofs
open Go.RowKit Go.ChangeShapes Go.WideShapes Go.ChangeAt Go.Deep
section
variable {H : Type} {enc : TypeId × Value → H} {W : World}
theorem spot_none {a : Addr} {v : Value} (h : W.cell? (a.add 0) = some v) : a = ⟨a.block, a.off, none⟩ := by
  obtain ⟨b, o, s⟩ := a
  cases s with
  | none => rfl
  | some q =>
    exfalso
    have e : ({ block := b, off := o, spot := some q } : Addr).add 0 = { block := b, off := o, spot := some q } := by unfold Addr.add; rw [if_pos rfl]
    rw [e] at h
    unfold World.cell? at h
    simp only [Option.isSome_some, if_true] at h
    split at h <;> cases h
theorem wf_fits {x : Int} (h : (Lit.int .i64 x).wf = true) : -9223372036854775808 ≤ x ∧ x ≤ 9223372036854775807 := by
  simpa [Lit.wf, IntKind.min, IntKind.max, IntKind.signed, IntKind.bits] using h
theorem lat_of_trod {α : Type} {R : World → Value → α → Prop} {d : α} {t e : TypeId} {base fuel : Nat} {spare : Nat → Bool} {held : Bool} {v : Value} {x : DataW H × List MemPlace} (ht : Try.prog.underlying t = some (.slice e)) (hc : Try.prog.cellsOf e = 1)
    (hR : ∀ n u y, DataW.trod enc Try.prog W base spare held n e [u] = some y → ∃ z, R W u z) (h : DataW.trod enc Try.prog W base spare held fuel t [v] = some x) : ∃ xs, LAt R d W v xs := by
  rcases open_slice1 ht hc h with ⟨hv, -⟩ | ⟨a, len, cap, m, n, V, D, Pl, hv, -, hl, hm, hmm, -, hx⟩
  · obtain rfl : v = .slice none 0 0 := by simpa using hv
    exact ⟨[], [], ⟨none, 0, 0, rfl, rfl, Nat.le_refl _, by simp [maxLen], fun h => absurd h (by simp)⟩, rfl, fun i hi => absurd hi (by simp)⟩
  · obtain rfl : v = .slice (some a) len cap := by simpa using hv
    have hlm : len ≤ m := by rw [hmm]; split <;> omega
    have hz : ∀ i, i < len → ∃ z, R W (V i) z := fun i hi => hR n (V i) _ (hx i (by omega)).2
    have hf : ∃ f : Nat → α, ∀ i, i < len → R W (V i) (f i) := by
      have hz' : ∀ i, ∃ z, i < len → R W (V i) z := fun i => by
        by_cases hi : i < len
        · obtain ⟨z, hz⟩ := hz i hi; exact ⟨z, fun _ => hz⟩
        · exact ⟨d, fun h => absurd h hi⟩
      exact ⟨fun i => Classical.choose (hz' i), fun i => Classical.choose_spec (hz' i)⟩
    obtain ⟨f, hf⟩ := hf
    refine ⟨(List.range len).map f, (List.range len).map V, ⟨_, len, cap, rfl, by simp, hl, hm, fun h0 => ?_⟩, by simp, fun i hi => ?_⟩
    · have hsp := spot_none (hx 0 (by omega)).1
      refine ⟨a.block, a.off, by rw [← hsp], fun j u hu => ?_⟩
      have hj : j < len := by have := (List.getElem?_eq_some_iff.1 hu).1; simpa using this
      have := (hx j (by omega)).1
      rw [hsp, Addr.add_lit] at this
      rw [this, ← hu]
      simp [List.getElem?_range hj]
    · have hi' : i < len := by simpa using hi
      refine ⟨V i, by simp [List.getElem?_range hi'], ?_⟩
      have : ((List.range len).map f).getD i d = f i := by simp [List.getD_eq_getElem?_getD, List.getElem?_range hi']
      rw [this]
      exact hf i hi'
theorem intsT_of_trod {t : TypeId} (ht : Try.prog.underlying t = some (.slice 3)) {base fuel : Nat} {spare : Nat → Bool} {held : Bool} {v : Value} {x : DataW H × List MemPlace} (h : DataW.trod enc Try.prog W base spare held fuel t [v] = some x) : ∃ xs, IntsAt W v xs := by
  obtain ⟨xs, vs, hS, hl, he⟩ := lat_of_trod (R := fun _ u z => u = .int .i64 z ∧ (Lit.int .i64 z).wf = true) (d := 0) ht (by kernel_rfl) (fun n u y hy => by
    obtain ⟨m, hu, -, hw⟩ := DataW.trod_int Try.underlying3 hy
    exact ⟨m, by simpa using hu, hw⟩) h
  have hvs : vs = ints xs := by
    apply List.ext_getElem (by simpa [ints] using hl)
    intro i h1 h2
    obtain ⟨u, hu, rfl, -⟩ := he i (by omega)
    have hi : i < xs.length := by omega
    rw [List.getElem?_eq_getElem h1] at hu
    rw [Option.some.inj hu]
    simp [ints, List.getD_eq_getElem?_getD, hi]
  refine ⟨xs, hvs ▸ hS, fun z hz => ?_⟩
  obtain ⟨i, hi, rfl⟩ := List.getElem_of_mem hz
  obtain ⟨u, -, -, hw⟩ := he i hi
  have e : xs.getD i 0 = xs[i] := by simp [List.getD_eq_getElem?_getD, hi]
  rw [e] at hw
  exact wf_fits hw
theorem ints_of_trod {base fuel : Nat} {spare : Nat → Bool} {held : Bool} {v : Value} {x : DataW H × List MemPlace} (h : DataW.trod enc Try.prog W base spare held fuel 25 [v] = some x) : ∃ xs, IntsAt W v xs := intsT_of_trod Try.underlying25 h
end
end Go.Proofs
