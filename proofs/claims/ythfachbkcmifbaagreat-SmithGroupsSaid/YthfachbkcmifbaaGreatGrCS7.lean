/- smith.identity; The matrix of the procedure grows by a row; what smith.Smith comes to; smith.Smith; slices.DeleteFunc at a list of numbers of the call's own. -/
import Derived.Test.YthfachbkcmifbaaGreatGrCS6
import Derived.Deep.RegionLaw
import Derived.Lib.SliceRun
import Derived.Laws.IdiomCopy
import Derived.Lib.EndianMore
namespace Go.Proofs
open Go.RowKit Go.Shelf Go.Proofs.Sm
theorem getD_replicate {α : Type} (n k : Nat) (x : α) (h : k < n) : (List.replicate n x).getD k x = x := by simp [List.getD_eq_getElem?_getD, h]
theorem r_make {o : Oper} {a : Act} {w w' : World} {v : Value} (T : TypeId) (x y : Operand) {n m : Value} (ho : o.op = .makeSlice T x y) (hx : a.eval x = n) (hy : a.eval y = m) (hr : (Instr.makeSlice T n m).run Tryz.prog w = .ok v w') : (execOp a.eval o).run Tryz.prog w = .ok (.value v) w' := by
  unfold execOp
  simp only [ho, hx, hy, Sem.run_bind, Sem.run_pure, hr, Result.andThen_ok]
/-- one matrix in memory, all of it from base on -/
structure MatM (base : Nat) (w : World) (v : Value) (bl cs : Nat → Nat) (m : Mat) : Prop where
  out : w.ownsRow base 25 1 v m.length ((List.range m.length).map fun i => .slice (some ⟨bl i, 0, none⟩) (m.getD i []).length (cs i))
  row : ∀ i, i < m.length → base ≤ bl i ∧ XsAt w (bl i) (m.getD i []) ∧ (m.getD i []).length ≤ cs i ∧ cs i ≤ 9223372036854775807
  inj : ∀ i j, i < m.length → j < m.length → bl i = bl j → i = j
theorem MatM.keep {base : Nat} {w w' : World} {v : Value} {bl cs : Nat → Nat} {m : Mat} (h : MatM base w v bl cs m) (hb : Below w.heap.size w w') : MatM base w' v bl cs m :=
  ⟨owns_below h.out hb, fun i hi => let ⟨a, b, c⟩ := h.row i hi; ⟨a, b.below hb, c⟩, h.inj⟩
theorem MatM.lt {base : Nat} {w : World} {v : Value} {bl cs : Nat → Nat} {m : Mat} (h : MatM base w v bl cs m) : (∀ i, i < m.length → bl i < w.heap.size) ∧ ∀ g, v.ownBlock = some g → base ≤ g ∧ g < w.heap.size :=
  ⟨fun i hi => (h.row i hi).2.1.lt, fun g hg => ⟨(owns_block h.out g hg).1, owns_lt h.out hg⟩⟩
/-- row j of an identity of n rows -/
def idRow (n j : Nat) : List Int := (List.range n).map fun q => if j = q then 1 else 0
theorem idRow_length (n j : Nat) : (idRow n j).length = n := by simp [idRow]
theorem idM_row {n j : Nat} (h : j < n) : (idM n).getD j [] = idRow n j := by simp [idM, idRow, List.getD_eq_getElem?_getD, h]
theorem idRow_set {n j : Nat} (_h : j < n) : (List.replicate n (0 : Int)).set j 1 = idRow n j := by
  apply List.ext_getElem (by simp [idRow])
  intro q h1 h2
  rw [List.getElem_set]
  simp [idRow]
theorem made_one (v : Value) (hv : v.cells = #[v]) (n : Nat) : madeCells v.cells n = Array.replicate n v := by
  apply Array.ext_getElem?
  intro k
  simp only [madeCells, hv, Array.getElem?_map, Array.getElem?_range, Array.getElem?_replicate]
  by_cases h : k < n
  · simp [h, Nat.mod_one]
  · simp [h]
theorem make25_any (w : World) (n : Nat) (hn : n ≤ 1000000) : ∃ w', (Instr.makeSlice 25 (.int .i64 (n : Int)) (.int .i64 (n : Int))).run Tryz.prog w = .ok (.slice (some ⟨w.heap.size, 0, none⟩) n n) w' ∧ XsAt w' w.heap.size (List.replicate n 0) ∧ Below w.heap.size w w' ∧ w'.heap.size = w.heap.size + 1 := by
  obtain ⟨i, hi, hz, hs, hb⟩ := info3p
  have h := run_makeSlice (P := Tryz.prog) w 25 3 i (.int .i64 0) Tryz.underlying25 hi hz .i64 .i64 n n (by omega) (Int.le_refl _) (by rw [hs]; simp; omega) (by rw [hb]; omega) (by omega)
  simp only [Int.toNat_natCast, hs, Nat.mul_one] at h
  rw [made_one _ rfl] at h
  refine ⟨_, h, ⟨_, heap_alloc_new w _, ?_, fun k hk => ?_⟩, (Below.refl _ _).alloc (Nat.le_refl _) _, by simp⟩
  · simp
  · rw [List.length_replicate] at hk
    rw [getD_replicate _ _ _ hk]
    simp [hk]
theorem make22_any (w : World) (n : Nat) (hn : n ≤ 1000000) : ∃ w' C, (Instr.makeSlice 40 (.int .i64 (n : Int)) (.int .i64 (n : Int))).run Tryz.prog w = .ok (.slice (some ⟨w.heap.size, 0, none⟩) n n) w' ∧ w'.heap[w.heap.size]? = some (.cells C 25 (0, 0)) ∧ C.size = n ∧ Below w.heap.size w w' ∧ w'.heap.size = w.heap.size + 1 := by
  obtain ⟨i, hi, hz, hs, hb⟩ := info24p
  have h := run_makeSlice (P := Tryz.prog) w 40 25 i (.slice none 0 0) Tryz.underlying40 hi hz .i64 .i64 n n (by omega) (Int.le_refl _) (by rw [hs]; simp; omega) (by rw [hb]; omega) (by omega)
  simp only [Int.toNat_natCast, hs, Nat.mul_one] at h
  rw [made_one _ rfl] at h
  exact ⟨_, _, h, heap_alloc_new w _, by simp, (Below.refl _ _).alloc (Nat.le_refl _) _, by simp⟩
/-- an identity under way: i rows are made -/
structure IdTo (B n i : Nat) (w wr : World) : Prop where
  size : wr.heap.size = B + 1 + i
  out : ∃ C : Array Value, wr.heap[B]? = some (.cells C 25 (0, 0)) ∧ C.size = n ∧ ∀ j, j < i → C[j]? = some (.slice (some ⟨B + 1 + j, 0, none⟩) n n)
  row : ∀ j, j < i → XsAt wr (B + 1 + j) (idRow n j)
  below : Below B w wr
theorem IdTo.cell {B n i : Nat} {w wr : World} (h : IdTo B n i w wr) {k : Nat} (hk : k < n) : (∃ u, wr.cell? ⟨B, k, none⟩ = some u) ∧ wr.frozen? ⟨B, k, none⟩ = false := by
  obtain ⟨C, hC, hs, -⟩ := h.out
  exact ⟨⟨C[k]'(by omega), by rw [cell_of_row _ _ _ _ _ _ hC]; exact Array.getElem?_eq_getElem (by omega)⟩, by simp [World.frozen?, hC]⟩
/-- a round: the row is made, stored, and its 1 is written -/
theorem IdTo.step {B n i : Nat} {w wr w1 : World} (h : IdTo B n i w wr) (hi : i < n) (hx : XsAt w1 wr.heap.size (List.replicate n 0)) (hb : Below wr.heap.size wr w1) (hz : w1.heap.size = wr.heap.size + 1) :
    IdTo B n (i + 1) w ((w1.setCell ⟨B, i, none⟩ (.slice (some ⟨B + 1 + i, 0, none⟩) n n)).setCell ⟨B + 1 + i, i, none⟩ (.int .i64 1)) := by
  obtain ⟨hsz, ⟨C, hC, hCs, hCj⟩, hrow, hbel⟩ := h
  rw [hsz] at hx hb hz
  have hBlt : B < B + 1 + i := by omega
  have hC1 : w1.heap[B]? = some (.cells C 25 (0, 0)) := (hb.block B hBlt).trans hC
  have hC2 := box_set hC1 i (.slice (some ⟨B + 1 + i, 0, none⟩) n n)
  have hne1 : ∀ p, p ≠ B → (w1.setCell ⟨B, i, none⟩ (.slice (some ⟨B + 1 + i, 0, none⟩) n n)).heap[p]? = w1.heap[p]? := fun p hp => Below.heap_setCell w1 ⟨B, i, none⟩ _ p hp
  have hne2 : ∀ p, p ≠ B + 1 + i → ((w1.setCell ⟨B, i, none⟩ (.slice (some ⟨B + 1 + i, 0, none⟩) n n)).setCell ⟨B + 1 + i, i, none⟩ (.int .i64 1)).heap[p]? = (w1.setCell ⟨B, i, none⟩ (.slice (some ⟨B + 1 + i, 0, none⟩) n n)).heap[p]? := fun p hp => Below.heap_setCell _ ⟨B + 1 + i, i, none⟩ _ p hp
  refine ⟨by simp [World.setCell, hz]; omega, ⟨_, (hne2 B (by omega)).trans hC2, by simpa using hCs, fun j hj => ?_⟩, fun j hj => ?_, ?_⟩
  · by_cases e : i = j
    · subst e; simp [hCs, hi]
    · rw [Array.getElem?_setIfInBounds_ne e]; exact hCj j (by omega)
  · by_cases e : j = i
    · subst e
      have h1 : XsAt (w1.setCell ⟨B, j, none⟩ (.slice (some ⟨B + 1 + j, 0, none⟩) n n)) (B + 1 + j) (List.replicate n 0) := hx.keep (hne1 _ (by omega))
      have h2 := h1.set (k := j) (by simp; omega) 1
      rw [idRow_set hi] at h2
      exact h2
    · exact ((hrow j (by omega)).keep (hb.block _ (by omega))).keep ((hne2 _ (by omega)).trans (hne1 _ (by omega)))
  · exact ((hbel.trans (hb.mono (by omega))).setCell (p := ⟨B, i, none⟩) (Nat.le_refl B) _).setCell (p := ⟨B + 1 + i, i, none⟩) (by show B ≤ B + 1 + i; omega) _
theorem IdTo.drewN {B n i : Nat} {w wr : World} (h : IdTo B n i w wr) (q : Nat) : IdTo B n i w (wr.drewN q) := ⟨h.size, h.out, h.row, below_drewN h.below q⟩
theorem IdTo.done {B n : Nat} {w wr : World} (h : IdTo B n n w wr) (_hB : B = w.heap.size) (hn : n ≤ 1000000) : MatM B wr (.slice (some ⟨B, 0, none⟩) n n) (fun j => B + 1 + j) (fun _ => n) (idM n) := by
  obtain ⟨hsz, ⟨C, hC, hCs, hCj⟩, hrow, -⟩ := h
  refine ⟨⟨by simp, .inr ⟨B, n, C, by rw [idM_length], Nat.le_refl _, hC, by rw [idM_length]; exact Nat.le_refl _, by unfold maxLen; omega, by simp [hCs], ?_⟩⟩, fun i hi => ?_, fun i j _ _ e => by have e' : B + 1 + i = B + 1 + j := e; omega⟩
  · rw [idM_length]
    apply List.ext_getElem?
    intro j
    rw [List.getElem?_take]
    by_cases hj : j < n
    · rw [if_pos (by omega), Array.getElem?_toList, hCj j hj]
      rw [List.getElem?_map, List.getElem?_range hj]
      simp only [Option.map_some, idM_row hj, idRow_length]
    · rw [if_neg (by omega), List.getElem?_eq_none (by simp; omega)]
  · rw [idM_length] at hi
    rw [idM_row hi, idRow_length]
    exact ⟨by omega, hrow i hi, Nat.le_refl _, by omega⟩
def IdPost (n : Nat) (w : World) (e : Ending) (w' : World) : Prop := ∃ A c bl cs, e = .returned (.slice A n c) ∧ MatM w.heap.size w' (.slice A n c) bl cs (idM n) ∧ Below w.heap.size w w'
set_option maxRecDepth 100000 in
set_option maxHeartbeats 1000000 in
theorem identity33_any (w : World) (n : Nat) (hn : n ≤ 1000000) : Calls Tryz.prog 36 #[.int .i64 (n : Int)] w (IdPost n w) := by
  obtain ⟨w1, C1, hm1, hC1, hs1, hb1, hz1⟩ := make22_any w n hn
  have HM1 := Lib.hid hm1
  have hstart : IdTo w.heap.size n 0 w w1 := ⟨by omega, ⟨C1, hC1, hs1, fun j hj => absurd hj (by omega)⟩, fun j hj => absurd hj (by omega), hb1⟩
  have HST := Lib.hid hstart
  clear hm1 hC1 hs1 hb1 hz1 hstart
  obtain ⟨B, hB⟩ : ∃ B, B = w.heap.size := ⟨_, rfl⟩
  rw [← hB] at HM1 HST
  have HB := Lib.hid hB
  clear hB
  have hn0 : (0 : Int) ≤ (n : Int) := Int.natCast_nonneg _
  have hnb : (n : Int) ≤ 1000000 := by omega
  go_enter Tryz.func36, Tryz.ntmps36
  go_wp2_with ((with_reducible refine wpList_sel 6 ?_); refine wpList_val rfl (r_make 40 (.tmp 5) (.tmp 5) rfl rfl rfl HM1.out) ?_)
  go_loopw [9] (fun z wr => ∃ i : Nat, i ≤ n ∧ z = .int .i64 i ∧ Hid (IdTo B n i w wr)) (fun z _ => n - (intOf z).toNat)
  case atStart => exact ⟨0, by omega, rfl, HST⟩
  case round =>
    obtain ⟨i, hi, rfl, HI⟩ := hrel
    have hi0 : (0 : Int) ≤ (i : Int) := Int.natCast_nonneg _
    by_cases hlt : i < n
    · have hlt' : (i : Int) < (n : Int) := by omega
      obtain ⟨w2, hm2, hx2, hb2, hz2⟩ := make25_any wr n hn
      have hsz := HI.out.size
      have HSTEP := Lib.hid (HI.out.step hlt hx2 hb2 hz2)
      obtain ⟨⟨u, hu⟩, hfu⟩ := HI.out.cell hlt
      have hu2 : w2.cell? ⟨B, i, none⟩ = some u := (hb2.cell (p := ⟨B, i, none⟩) (by show B < wr.heap.size; omega)).trans hu
      have hf2 : w2.frozen? ⟨B, i, none⟩ = false := (hb2.frozen (p := ⟨B, i, none⟩) (by show B < wr.heap.size; omega)).trans hfu
      have hc3 : w2.cell? ⟨B + 1 + i, i, none⟩ = some (.int .i64 0) := by
        have h := hx2.cell (k := i) (by simp; omega)
        rw [getD_replicate _ _ _ hlt, hsz] at h
        exact h
      have hf3 : w2.frozen? ⟨B + 1 + i, i, none⟩ = false := by
        have h := hx2.frozen i
        rw [hsz] at h
        exact h
      rw [hsz] at hm2
      have HM2 := Lib.hid hm2
      have hne : B + 1 + i ≠ B := by omega
      have hne' : B ≠ B + 1 + i := by omega
      clear hm2 hx2 hb2 hz2 hsz hu hfu
      generalize hP : B + 1 + i = P at *
      have HP := Lib.hid hP
      clear hP
      go_wp2_with ((with_reducible refine wpList_sel 15 ?_); refine wpList_val rfl (r_make 25 (.tmp 14) (.tmp 14) rfl rfl rfl HM2.out) ?_)
      go_roundw
      case rel => exact ⟨i + 1, by omega, by go_num, HSTEP⟩
      case measure => simp [intOf]; omega
    · obtain rfl : i = n := by omega
      have HD := Lib.hid (HI.out.done HB.out hn)
      have HBL := Lib.hid HI.out.below
      go_wp2_with fail
      go_ret
      exact ⟨_, _, _, _, rfl, by rw [← HB.out]; exact HD.out, by rw [← HB.out]; exact HBL.out⟩
end Go.Proofs
namespace Go.Proofs
open Go.RowKit Go.Shelf Go.Proofs.Sm
section
variable {ops : Array Oper} {o : Oper} {a : Act} {w w' : World} {K : Act → World → Prop} {Q : Exit → Act → World → Prop} {E : Prop} {v : Value}
theorem step_sel (s : Nat) {op : Op} {t : TypeId} {p : String} {af : Array Edge} {g : Option (Nat × Bool)} (h : if Region.wanted ⟨some s, op, t, p, af, g⟩ (yielded ops a.tmps) = true then Oper.wp Tryz.prog ⟨some s, op, t, p, af, g⟩ a w K Q else E) : if Region.wanted ⟨some s, op, t, p, af, g⟩ (yielded ops a.tmps) = true then Oper.wp Tryz.prog ⟨some s, op, t, p, af, g⟩ a w K Q else E := h
theorem step_val (hgd : o.guard = none) (hr : (execOp a.eval o).run Tryz.prog w = .ok (.value v) w') (h : K (a.put o.dst v) w') : if Region.wanted o (yielded ops a.tmps) = true then Oper.wp Tryz.prog o a w K Q else E := by
  have hw : Region.wanted o (yielded ops a.tmps) = true := by simp [Region.wanted, hgd]
  rw [if_pos hw]
  unfold Oper.wp
  rw [hr]
  exact h
end
section
variable {T b base : Nat} {w : World} {s : S} {x : Value} {vs : Nat → Value} {bl cs : Nat → Nat → Nat}
set_option maxRecDepth 10000 in
/-- a row of the call's own joins a -/
theorem WkM.push (h : WkM T b base w s x vs bl cs) (hbw : base ≤ w.heap.size) {g c : Nat} {xs : List Int} (hx : XsAt w g xs) (hg : base ≤ g) (hc : xs.length ≤ c) (hcm : c ≤ 9223372036854775807) (hnew : ∀ k i, k < 3 → i < (s.mat k).length → bl k i ≠ g) (hl : s.a.length ≤ 1000000) :
    ∃ A' c' w', (Builtin.append_ #[40, 40] 40 #[vs 0, .slice (some ⟨w.heap.size, 0, none⟩) 1 1]).run Tryz.prog (w.alloc (.cells #[.slice (some ⟨g, 0, none⟩) xs.length c] 25)) = .ok (.slice A' (s.a.length + 1) c') w' ∧
      (∃ u, w'.cell? ⟨b, 0, none⟩ = some u) ∧ w'.frozen? ⟨b, 0, none⟩ = false ∧
      (∃ vs' bl' cs', WkM T b base (w'.setCell ⟨b, 0, none⟩ (.slice A' (s.a.length + 1) c')) { s with a := s.a ++ [xs] } x vs' bl' cs') ∧ Below base w (w'.setCell ⟨b, 0, none⟩ (.slice A' (s.a.length + 1) c')) := by
  obtain ⟨A', c', w', hr, ho, hgr, hw⟩ := run_push (ty := 40) Tryz.underlying40 info24p rfl (by omega) w base (vs 0) s.a.length _ (h.out 0 (by omega)) (.slice (some ⟨g, 0, none⟩) xs.length c) rfl (by omega) hbw
  have hkeep : ∀ p, p < w.heap.size → (vs 0).ownBlock ≠ some p → w'.heap[p]? = w.heap[p]? := fun p hp hn => hgr.block p hp (Ne.symm hn)
  have h0 := owns_block (h.out 0 (by omega))
  have htyne : ∀ {p : Nat} {C : Array Value} {e : TypeId}, w.heap[p]? = some (.cells C e (0, 0)) → e ≠ 25 → (vs 0).ownBlock ≠ some p := fun {p C e} hp he e2 => by
    obtain ⟨-, C', hC'⟩ := h0 p e2
    rw [hp] at hC'
    injection hC' with h5
    injection h5 with _ h6 _
    exact he h6
  have hbox' : w'.heap[b]? = w.heap[b]? := hkeep b h.lt (htyne h.box h.ty.2)
  have hne : ∀ p, p ≠ b → (w'.setCell ⟨b, 0, none⟩ (.slice A' (s.a.length + 1) c')).heap[p]? = w'.heap[p]? := fun p hp => Below.heap_setCell w' ⟨b, 0, none⟩ _ p hp
  have hb1 : w'.heap[b]? = some (.cells #[vs 0, vs 1, vs 2, x] T (0, 0)) := hbox'.trans h.box
  have hrow' : ∀ (p : Nat) (C : Array Value), w.heap[p]? = some (.cells C 3 (0, 0)) → (w'.setCell ⟨b, 0, none⟩ (.slice A' (s.a.length + 1) c')).heap[p]? = w.heap[p]? := fun p C hp =>
    (hne p (fun e => by
      rw [e, h.box] at hp
      injection hp with h5
      injection h5 with _ h6 _
      exact h.ty.1 h6)).trans (hkeep p (Array.getElem?_eq_some_iff.1 hp).1 (htyne hp (by decide)))
  have hm0 : (({ s with a := s.a ++ [xs] } : S).mat 0) = s.a ++ [xs] := rfl
  have hmk : ∀ k, k ≠ 0 → k < 3 → (({ s with a := s.a ++ [xs] } : S).mat k) = s.mat k := fun k hk hk3 => by
    obtain rfl | rfl : k = 1 ∨ k = 2 := by omega
    all_goals rfl
  have hgl : ∀ i, i < s.a.length → (s.a ++ [xs]).getD i [] = s.a.getD i [] := fun i hi => by simp [List.getD_eq_getElem?_getD, List.getElem?_append_left hi]
  have hgl2 : (s.a ++ [xs]).getD s.a.length [] = xs := by simp [List.getD_eq_getElem?_getD]
  obtain ⟨Cx, hCx, -⟩ := id hx
  refine ⟨A', c', w', hr, ⟨vs 0, by rw [cell_of_row _ _ _ _ _ _ hb1]; rfl⟩, by simp [World.frozen?, hb1], ⟨fun k => if k = 0 then .slice A' (s.a.length + 1) c' else vs k, fun k i => if k = 0 ∧ i = s.a.length then g else bl k i, fun k i => if k = 0 ∧ i = s.a.length then c else cs k i, h.ty, h.bb, ?_, fun k hk => ?_, fun k i hk hi => ?_, fun k i k' i' h1 h2 h3 h4 e => ?_, fun k k' h1 h2 h3 q hq hq' => ?_⟩, ?_⟩
  · rw [box_set hb1]; rfl
  · by_cases e : k = 0
    · subst e
      have e2 : (List.range (s.a.length + 1)).map (fun i => Value.slice (some ⟨if 0 = 0 ∧ i = s.a.length then g else bl 0 i, 0, none⟩) ((s.a ++ [xs]).getD i []).length (if 0 = 0 ∧ i = s.a.length then c else cs 0 i)) = ((List.range s.a.length).map fun i => Value.slice (some ⟨bl 0 i, 0, none⟩) ((s.mat 0).getD i []).length (cs 0 i)) ++ [.slice (some ⟨g, 0, none⟩) xs.length c] := by
        rw [List.range_succ, List.map_append]
        congr 1
        · refine List.map_congr_left fun i hi => ?_
          have hi' := List.mem_range.1 hi
          rw [if_neg (by omega), if_neg (by omega), hgl i hi']
          rfl
        · simp only [List.map_cons, List.map_nil, hgl2, and_self, if_true]
      have hl1 : (s.a ++ [xs]).length = s.a.length + 1 := by simp
      rw [hm0, hl1]
      show World.ownsRow _ base 25 1 (.slice A' (s.a.length + 1) c') (s.a.length + 1) ((List.range (s.a.length + 1)).map fun i => Value.slice (some ⟨if 0 = 0 ∧ i = s.a.length then g else bl 0 i, 0, none⟩) ((s.a ++ [xs]).getD i []).length (if 0 = 0 ∧ i = s.a.length then c else cs 0 i))
      rw [e2]
      refine owns_keep ho fun r hr => hne r fun e3 => ?_
      obtain ⟨-, C, hC⟩ := owns_block ho r hr
      rw [e3, hb1] at hC
      injection hC with h5
      injection h5 with _ h6 _
      exact h.ty.2 h6
    · rw [hmk k e hk]
      have e3 : ∀ i, (if k = 0 ∧ i = s.a.length then g else bl k i) = bl k i := fun i => if_neg (fun h => e h.1)
      have e4 : ∀ i, (if k = 0 ∧ i = s.a.length then c else cs k i) = cs k i := fun i => if_neg (fun h => e h.1)
      simp only [e3, e4, if_neg e]
      refine owns_keep (h.out k hk) fun r hr => ?_
      obtain ⟨-, C, hC⟩ := owns_block (h.out k hk) r hr
      have hrb : r ≠ b := fun e3 => by
        rw [e3, h.box] at hC
        injection hC with h5
        injection h5 with _ h6 _
        exact h.ty.2 h6
      exact (hne r hrb).trans (hkeep r (Array.getElem?_eq_some_iff.1 hC).1 (fun e4 => h.sep 0 k (by omega) hk (fun h => e h.symm) r e4 hr))
  · by_cases e : k = 0
    · subst e
      rw [hm0] at hi ⊢
      simp only [List.length_append, List.length_cons, List.length_nil] at hi
      by_cases e2 : i = s.a.length
      · subst e2
        rw [if_pos ⟨rfl, rfl⟩, if_pos ⟨rfl, rfl⟩, hgl2]
        exact ⟨hg, hx.keep (hrow' g Cx hCx), hc, hcm⟩
      · have hi' : i < s.a.length := by omega
        rw [if_neg (fun h => e2 h.2), if_neg (fun h => e2 h.2), hgl i hi']
        obtain ⟨a1, a2, a3⟩ := h.row 0 i (by omega) hi'
        obtain ⟨C, hC⟩ := h.row_ty (k := 0) (by omega) hi'
        exact ⟨a1, a2.keep (hrow' _ C hC), a3⟩
    · rw [hmk k e hk] at hi ⊢
      rw [if_neg (fun h => e h.1), if_neg (fun h => e h.1)]
      obtain ⟨a1, a2, a3⟩ := h.row k i hk hi
      obtain ⟨C, hC⟩ := h.row_ty hk hi
      exact ⟨a1, a2.keep (hrow' _ C hC), a3⟩
  · have conv : ∀ k i, k < 3 → i < (({ s with a := s.a ++ [xs] } : S).mat k).length → ¬ (k = 0 ∧ i = s.a.length) → i < (s.mat k).length := fun k i hk hi hn => by
      by_cases e : k = 0
      · subst e
        rw [hm0] at hi
        simp only [List.length_append, List.length_cons, List.length_nil] at hi
        show i < s.a.length
        omega
      · rw [hmk k e hk] at hi; exact hi
    by_cases c1 : k = 0 ∧ i = s.a.length
    · by_cases c2 : k' = 0 ∧ i' = s.a.length
      · exact ⟨by omega, by omega⟩
      · simp only [if_pos c1, if_neg c2] at e
        exact absurd e.symm (hnew k' i' h2 (conv k' i' h2 h4 c2))
    · by_cases c2 : k' = 0 ∧ i' = s.a.length
      · simp only [if_neg c1, if_pos c2] at e
        exact absurd e (hnew k i h1 (conv k i h1 h3 c1))
      · simp only [if_neg c1, if_neg c2] at e
        exact h.inj k i k' i' h1 h2 (conv k i h1 h3 c1) (conv k' i' h2 h4 c2) e
  · have hfresh : ∀ q, (Value.slice A' (s.a.length + 1) c').ownBlock = some q → (vs 0).ownBlock = some q ∨ w.heap.size ≤ q := fun q hq => by
      rcases hw with hw | ⟨r, hr, hge⟩
      · exact .inl (by rw [← hw]; exact hq)
      · rw [hr] at hq; cases hq; exact .inr hge
    by_cases e : k = 0
    · subst e
      have hk' : ¬ k' = 0 := fun h => h3 h.symm
      simp only [if_true, if_neg hk'] at hq hq'
      rcases hfresh q hq with h5 | h5
      · exact h.sep 0 k' (by omega) h2 h3 q h5 hq'
      · have := owns_lt (h.out k' h2) hq'; omega
    · by_cases e' : k' = 0
      · subst e'
        simp only [if_true, if_neg e] at hq hq'
        rcases hfresh q hq' with h5 | h5
        · exact h.sep 0 k (by omega) h1 (fun h => e h.symm) q h5 hq
        · have := owns_lt (h.out k h1) hq; omega
      · simp only [if_neg e, if_neg e'] at hq hq'
        exact h.sep k k' h1 h2 h3 q hq hq'
  · exact ((Below.refl base w).grown hgr hbw (fun r hr => (h0 r hr).1)).setCell (p := ⟨b, 0, none⟩) h.bb _
end
/-- the state at the start: no rows yet -/
theorem WkM.start {base : Nat} {w : World} {r n : Nat} {vu vv : Value} {blu csu blv csv : Nat → Nat} (hbw : base ≤ w.heap.size) (hu : MatM base w vu blu csu (idM r)) {base2 : Nat} (hb2 : base ≤ base2) (hult : (∀ i, i < r → blu i < base2) ∧ ∀ g, vu.ownBlock = some g → g < base2) (hv : MatM base2 w vv blv csv (idM n)) :
    Wk 62 w.heap.size base (w.alloc (.cells #[.slice none 0 0, vu, vv, .int .i64 0] 62)) ⟨[], idM r, idM n, 0⟩ (.int .i64 0) := by
  have hal : Below w.heap.size w (w.alloc (.cells #[.slice none 0 0, vu, vv, .int .i64 0] 62)) := (Below.refl _ _).alloc (Nat.le_refl _) _
  have hu2 := hu.keep hal
  have hv2 := hv.keep hal
  refine ⟨fun k => if k = 0 then .slice none 0 0 else if k = 1 then vu else vv, fun k i => if k = 1 then blu i else blv i, fun k i => if k = 1 then csu i else csv i, ⟨by decide, by decide⟩, hbw, heap_alloc_new w _, fun k hk => ?_, fun k i hk hi => ?_, fun k i k' i' h1 h2 h3 h4 e => ?_, fun k k' h1 h2 h3 q hq hq' => ?_⟩
  · obtain rfl | rfl | rfl : k = 0 ∨ k = 1 ∨ k = 2 := by omega
    · exact World.ownsRow_nil _ _ _ _
    · exact hu2.out
    · exact owns_base hv2.out hb2
  · obtain rfl | rfl | rfl : k = 0 ∨ k = 1 ∨ k = 2 := by omega
    · exact absurd hi (Nat.not_lt_zero _)
    · exact hu2.row i hi
    · obtain ⟨a1, a2, a3⟩ := hv2.row i hi
      exact ⟨Nat.le_trans hb2 a1, a2, a3⟩
  · obtain rfl | rfl | rfl : k = 0 ∨ k = 1 ∨ k = 2 := by omega
    · exact absurd h3 (Nat.not_lt_zero _)
    · obtain rfl | rfl | rfl : k' = 0 ∨ k' = 1 ∨ k' = 2 := by omega
      · exact absurd h4 (Nat.not_lt_zero _)
      · exact ⟨rfl, hu2.inj i i' h3 h4 e⟩
      · have e2 : blu i = blv i' := e
        have h5 := hult.1 i (by rw [← idM_length r]; exact h3)
        have h6 := (hv2.row i' h4).1
        omega
    · obtain rfl | rfl | rfl : k' = 0 ∨ k' = 1 ∨ k' = 2 := by omega
      · exact absurd h4 (Nat.not_lt_zero _)
      · have e2 : blv i = blu i' := e
        have h5 := hult.1 i' (by rw [← idM_length r]; exact h4)
        have h6 := (hv2.row i h3).1
        omega
      · exact ⟨rfl, hv2.inj i i' h3 h4 e⟩
  · obtain rfl | rfl | rfl : k = 0 ∨ k = 1 ∨ k = 2 := by omega
    · cases hq
    · obtain rfl | rfl | rfl : k' = 0 ∨ k' = 1 ∨ k' = 2 := by omega
      · cases hq'
      · exact h3 rfl
      · have h5 := hult.2 q hq
        have h6 := (owns_block hv2.out q hq').1
        omega
    · obtain rfl | rfl | rfl : k' = 0 ∨ k' = 1 ∨ k' = 2 := by omega
      · cases hq'
      · have h5 := hult.2 q hq'
        have h6 := (owns_block hv2.out q hq).1
        omega
      · exact h3 rfl
end Go.Proofs
namespace Go.Proofs
open Go.RowKit Go.Shelf Go.Proofs.Sm
theorem rowsE_zero {n : Int} : ∀ {l : List (List Int)}, rowsE n l = 0 → ∀ x ∈ l, (x.length : Int) = n ∧ ∀ z ∈ x, -1000000 ≤ z ∧ z ≤ 1000000
  | [], _, x, hx => by cases hx
  | y :: l, h, x, hx => by
    unfold rowsE at h
    by_cases h1 : (y.length : Int) ≠ n
    · rw [if_pos h1] at h; omega
    · rw [if_neg h1] at h
      by_cases h2 : (y.any fun z => !entryB z) = true
      · rw [if_pos h2] at h; omega
      · rw [if_neg h2] at h
        rcases List.mem_cons.1 hx with rfl | hx
        · refine ⟨by omega, fun z hz => ?_⟩
          have h3 : (x.any fun z => !entryB z) = false := by simpa using h2
          rw [List.any_eq_false] at h3
          have h4 := h3 z hz
          unfold entryB at h4
          simpa using h4
        · exact rowsE_zero h x hx
theorem valid_of_check {n : Int} {l : List (List Int)} (h : checkE n l = 0) : 1 ≤ n ∧ n ≤ 16 ∧ l.length ≤ 100 ∧ Valid n.toNat l := by
  unfold checkE at h
  by_cases h1 : n < 1 ∨ 16 < n
  · rw [if_pos h1] at h; omega
  · rw [if_neg h1] at h
    by_cases h2 : 100 < l.length
    · rw [if_pos h2] at h; omega
    · rw [if_neg h2] at h
      refine ⟨by omega, by omega, by omega, fun x hx => ?_, fun i j => ?_⟩
      · have := (rowsE_zero h x hx).1; omega
      · unfold ent
        rcases Nat.lt_or_ge i l.length with hi | hi
        · rw [List.getD_eq_getElem?_getD (l := l), List.getElem?_eq_getElem hi]
          rcases Nat.lt_or_ge j l[i].length with hj | hj
          · rw [Option.getD_some, List.getD_eq_getElem?_getD, List.getElem?_eq_getElem hj]
            exact (rowsE_zero h _ (List.getElem_mem hi)).2 _ (List.getElem_mem hj)
          · rw [Option.getD_some, List.getD_eq_getElem?_getD, List.getElem?_eq_none hj]; simp
        · rw [List.getD_eq_getElem?_getD (l := l), List.getElem?_eq_none hi]; simp
/-- what Smith returns -/
def SmE (n : Int) (l : Mat) (d : List Int) (u v : Mat) (er : Int) : Prop :=
  (checkE n l ≠ 0 ∧ d = [] ∧ u = [] ∧ v = [] ∧ er = checkE n l) ∨ (checkE n l = 0 ∧ ((Out n.toNat l none ∧ d = [] ∧ u = [] ∧ v = [] ∧ er = 5) ∨ ∃ s, Out n.toNat l (some s) ∧ d = diagOf s ∧ u = s.u ∧ v = s.v ∧ er = 0))
theorem smE_ex (n : Int) (l : Mat) : ∃ d u v er, SmE n l d u v er := by
  by_cases h : checkE n l = 0
  · obtain ⟨o, ho⟩ := out_ex (valid_of_check h).2.2.2
    cases o with
    | none => exact ⟨_, _, _, _, .inr ⟨h, .inl ⟨ho, rfl, rfl, rfl, rfl⟩⟩⟩
    | some s => exact ⟨_, _, _, _, .inr ⟨h, .inr ⟨s, ho, rfl, rfl, rfl, rfl⟩⟩⟩
  · exact ⟨_, _, _, _, .inl ⟨h, rfl, rfl, rfl, rfl⟩⟩
def SmithPost (d : List Int) (u v : Mat) (er : Int) (w : World) (e : Ending) (w' : World) : Prop := (∃ vd vu vv, e = .returned (.tuple #[vd, vu, vv, .int .i64 er]) ∧ IntsAt w' vd d ∧ Tab w' vu u ∧ Tab w' vv v) ∧ Below w.heap.size w w'
/-- and the diagonal lies in memory of the call's own -/
def SmithPostD (d : List Int) (u v : Mat) (er : Int) (w : World) (e : Ending) (w' : World) : Prop := (∃ vd vu vv, e = .returned (.tuple #[vd, vu, vv, .int .i64 er]) ∧ IntsAt w' vd d ∧ Tab w' vu u ∧ Tab w' vv v ∧ ∀ r, vd.ownBlock = some r → w.heap.size ≤ r) ∧ Below w.heap.size w w'
def SmithPostO (o : Option S) (w : World) (e : Ending) (w' : World) : Prop := match o with
  | none => SmithPostD [] [] [] 5 w e w'
  | some s => SmithPostD (diagOf s) s.u s.v 0 w e w'
theorem WkM.tab {T b base : Nat} {w : World} {s : S} {x : Value} {vs : Nat → Value} {bl cs : Nat → Nat → Nat} (h : WkM T b base w s x vs bl cs) {k : Nat} (hk : k < 3) (hf : ∀ y ∈ s.mat k, Fits y) : Tab w (vs k) (s.mat k) :=
  ⟨_, sl_of_owns (h.out k hk), by simp, fun i hi => rowsV_at h hk hi (hf _ (by rw [List.getD_eq_getElem?_getD, List.getElem?_eq_getElem hi]; exact List.getElem_mem hi))⟩
theorem fits_mat {m : Mat} (h : ∀ i j, -1000000000 ≤ ent m i j ∧ ent m i j ≤ 1000000000) : ∀ y ∈ m, Fits y := fun y hy z hz => by
  obtain ⟨i, hi, rfl⟩ := List.getElem_of_mem hy
  obtain ⟨j, hj, rfl⟩ := List.getElem_of_mem hz
  have h1 := h i j
  unfold ent at h1
  rw [List.getD_eq_getElem?_getD (l := m), List.getElem?_eq_getElem hi, Option.getD_some, List.getD_eq_getElem?_getD, List.getElem?_eq_getElem hj, Option.getD_some] at h1
  omega
theorem owns_xs {base : Nat} {w : World} {A : Option Addr} {c : Nat} {xs : List Int} (h : OwnI base w (.slice A xs.length c) xs) (h0 : 0 < xs.length) : ∃ g, A = some ⟨g, 0, none⟩ ∧ XsAt w g xs ∧ base ≤ g ∧ xs.length ≤ c ∧ c ≤ 9223372036854775807 := by
  obtain ⟨hl, ho⟩ := h
  rcases ho with ⟨-, h1⟩ | ⟨g, cap, cur, e, hb, hC, h1, hm, hs, ht⟩
  · omega
  · have e1 : A = some ⟨g, 0, none⟩ := by injection e
    have e2 : c = cap := by injection e
    subst e2
    refine ⟨g, e1, ⟨cur, hC, by omega, fun k hk => ?_⟩, hb, h1, by simpa [maxLen] using hm⟩
    have h2 : (cur.toList.take (xs.length * 1))[k]? = (ints xs)[k]? := by rw [ht]
    rw [List.getElem?_take, if_pos (by omega)] at h2
    simpa [ints, hk, List.getD_eq_getElem?_getD] using h2
theorem take_getD (l : List (List Int)) {k : Nat} (h : k < l.length) : l.take k ++ [l.getD k []] = l.take (k + 1) := by
  rw [List.take_succ_eq_append_getElem h, List.getD_eq_getElem?_getD, List.getElem?_eq_getElem h]; rfl
theorem diag_take (s : S) {i : Nat} (h : i < s.t) : (diagOf s).take i ++ [dia s i] = (diagOf s).take (i + 1) := by
  rw [List.take_succ_eq_append_getElem (by rw [length_diagOf]; exact h)]
  simp [diagOf, dia]
theorem smith_no (w : World) (n : Int) (v : Value) (l : List (List Int)) (h : Tab w v l) (hc : checkE n l ≠ 0) : Calls Tryz.prog 13 #[.int .i64 n, v] w (SmithPostD [] [] [] (checkE n l) w) := by
  have HC := Lib.hid (check15_any w n v l h)
  have hd : (checkE n l != 0) = true := by simpa using hc
  obtain ⟨A0, c0, rfl, -, -, -⟩ := h.open_
  clear h hc
  generalize checkE n l = z at *
  go_enter Tryz.func13, Tryz.ntmps13
  go_wp2_with (go_at_call 35; (refine HC.out.mono ?_); rintro e w' ⟨rfl, q, rfl⟩)
  exact bodyPost_ret (v := .tuple #[.slice none 0 0, .slice none 0 0, .slice none 0 0, .int .i64 z]) (by simp [results, Tryz.results13, go_sem]) rfl ⟨⟨_, _, _, rfl, intsAt_nil, tab_nil, tab_nil, fun r hr => by cases hr⟩, below_drewN (Below.refl _ _) _⟩
set_option maxRecDepth 100000 in
set_option maxHeartbeats 400000 in
theorem smith_over (w : World) (n : Nat) (v : Value) (l : List (List Int)) (h : Tab w v l) (hc : checkE n l = 0) (o : Option S) (ho : Out n l o) : Calls Tryz.prog 13 #[.int .i64 (n : Int), v] w (SmithPostO o w) := by
  have hch := check15_any w n v l h
  rw [hc] at hch
  obtain ⟨hn1, hn2, hl, hval⟩ := valid_of_check hc
  rw [Int.toNat_natCast] at hval
  have HC := Lib.hid hch
  have HV := Lib.hid hval
  have HT := Lib.hid h
  obtain ⟨A0, c0, rfl, hc1, hc2, hcc⟩ := h.open_
  have HIDN : Hid (∀ W, Calls Tryz.prog 36 #[.int .i64 (n : Int)] W (IdPost n W)) := Lib.hid fun W => identity33_any W n (by omega)
  have HCC := Lib.hid hcc
  clear h hch hval hcc hc
  obtain ⟨r, hr⟩ : ∃ r, r = l.length := ⟨_, rfl⟩
  rw [← hr] at hl hc1 HCC HC HT ⊢
  have HR := Lib.hid hr
  clear hr
  have HIDR : Hid (∀ W, Calls Tryz.prog 36 #[.int .i64 (r : Int)] W (IdPost r W)) := Lib.hid fun W => identity33_any W r (by omega)
  have hr0 : (0 : Int) ≤ (r : Int) := Int.natCast_nonneg _
  have hrb : (r : Int) ≤ 100 := by omega
  go_enter Tryz.func13, Tryz.ntmps13
  go_wp2_with (first
    | (go_at_call 35; (refine HC.out.mono ?_); rintro e w' ⟨rfl, q, rfl⟩)
    | (go_at_call 36; (with_reducible refine (HIDR.out _).mono ?_); rintro e w1 ⟨Au, cu, blu, csu, rfl, hmu, hb1⟩; have HMU := Lib.hid hmu; have HB1 := Lib.hid hb1; clear hmu hb1)
    | (go_at_call 36; (with_reducible refine (HIDN.out _).mono ?_); rintro e w2 ⟨Av, cv, blv, csv, rfl, hmv, hb2⟩; have HMV := Lib.hid hmv; have HB2 := Lib.hid hb2; clear hmv hb2))
  have hbase : w.heap.size ≤ w2.heap.size := Nat.le_trans HB1.out.size HB2.out.size
  have hst := WkM.start (r := r) (n := n) (base := w.heap.size) (base2 := w1.heap.size) hbase (HMU.out.keep HB2.out) HB1.out.size ⟨fun i hi => HMU.out.lt.1 i (by rw [idM_length]; exact hi), fun g hg => (HMU.out.lt.2 g hg).2⟩ HMV.out
  have hbw0 : Below w.heap.size w (w2.alloc (.cells #[.slice none 0 0, .slice Au r cu, .slice Av n cv, .int .i64 0] 62)) := ((below_drewN (Below.refl w.heap.size w) q).trans (HB1.out.trans (HB2.out.mono HB1.out.size))).alloc hbase _
  have HST := Lib.hid (And.intro hst hbw0)
  clear hst hbw0 hbase
  generalize hb : w2.heap.size = b at *
  generalize w2.alloc (.cells #[.slice none 0 0, .slice Au r cu, .slice Av n cv, .int .i64 0] 62) = w3 at *
  clear hb
  go_loopw [28] (fun z wr => ∃ k : Nat, k ≤ r ∧ z = .int .i64 k ∧ Hid (Wk 62 b w.heap.size wr ⟨l.take k, idM r, idM n, 0⟩ (.int .i64 0) ∧ Below w.heap.size w wr)) (fun z _ => r - (intOf z).toNat)
  case atStart => exact ⟨0, by omega, rfl, Lib.hid ⟨HST.out.1, HST.out.2⟩⟩
  case round =>
    obtain ⟨k, hk, rfl, HQ⟩ := hrel
    have hk0 : (0 : Int) ≤ (k : Int) := Int.natCast_nonneg _
    by_cases hlt : k < r
    · have hlt' : (k : Int) < (r : Int) := by omega
      obtain ⟨bo, oo, rfl, hcells⟩ := HCC.out (by omega)
      obtain ⟨u, hu, hI⟩ := hcells k hlt
      have hu2 := (HQ.out.2.cell (p := ⟨bo, oo + k, none⟩) (World.block_lt_of_cell? w _ hu)).trans hu
      have hrow : (l.getD k []).length = n := HV.out.row _ (by rw [List.getD_eq_getElem?_getD, List.getElem?_eq_getElem (by rw [← HR.out]; exact hlt)]; exact List.getElem_mem _)
      obtain ⟨A5, c5, rfl, e1, e2, -⟩ := hI.open_
      rw [hrow] at e1 hu2
      have htk := take_getD l (k := k) (by rw [← HR.out]; exact hlt)
      have hlen : (l.take k).length = k := by rw [List.length_take]; have := HR.out; omega
      have HCL : Hid (∀ W, Below wr.heap.size wr W → Calls Tryz.prog 37 #[.slice A5 n c5] W fun e w' => ∃ g c, e = .returned (.slice (some ⟨g, 0, none⟩) n c) ∧ XsAt w' g (l.getD k []) ∧ W.heap.size ≤ g ∧ n ≤ c ∧ c ≤ 9223372036854775807 ∧ Below W.heap.size W w') := Lib.hid fun W hb => by
        have h := clone34_any W (.slice A5 (l.getD k []).length c5) (l.getD k []) (kept_ints.below hI (HQ.out.2.trans (hb.mono HQ.out.2.size))) (by omega)
        rw [hrow] at h
        refine h.mono fun e w' ⟨A, c, h1, h2, h3⟩ => ?_
        rw [← hrow] at h2
        obtain ⟨g, rfl, h4, h5, h6, h7⟩ := owns_xs h2 (by omega)
        rw [hrow] at h6
        exact ⟨g, c, h1, h4, h5, h6, h7, h3⟩
      obtain ⟨vs, bl, cs, hM⟩ := HQ.out.1
      obtain ⟨d0, -, -, -, d4⟩ := hM.cells
      obtain ⟨Aa, ca, hva, ha1, ha2⟩ := hM.form (k := 0) (by omega)
      have hl0 : (S.mat ⟨l.take k, idM r, idM n, 0⟩ 0).length = k := hlen
      rw [hl0] at hva
      rw [hva] at d0
      have HPUSH : Hid (∀ W g c, Below wr.heap.size wr W → XsAt W g (l.getD k []) → wr.heap.size ≤ g → n ≤ c → c ≤ 9223372036854775807 → ∃ A' c' w', (Builtin.append_ #[40, 40] 40 #[.slice Aa k ca, .slice (some ⟨W.heap.size, 0, none⟩) 1 1]).run Tryz.prog (W.alloc (.cells #[.slice (some ⟨g, 0, none⟩) n c] 25)) = .ok (.slice A' (k + 1) c') w' ∧ (∃ u, w'.cell? ⟨b, 0, none⟩ = some u) ∧ w'.frozen? ⟨b, 0, none⟩ = false ∧ Wk 62 b w.heap.size (w'.setCell ⟨b, 0, none⟩ (.slice A' (k + 1) c')) ⟨l.take (k + 1), idM r, idM n, 0⟩ (.int .i64 0) ∧ Below w.heap.size w (w'.setCell ⟨b, 0, none⟩ (.slice A' (k + 1) c'))) := Lib.hid fun W g c hb hx hg hc1 hc2 => by
        have h := (hM.below hb).push (g := g) (c := c) (xs := l.getD k []) (Nat.le_trans HQ.out.2.size hb.size) hx (Nat.le_trans HQ.out.2.size hg) (by rw [hrow]; exact hc1) hc2 (fun k' i hk' hi e => by
          have h1 := (hM.row k' i hk' hi).2.1.lt
          omega) (by show (l.take k).length ≤ 1000000; omega)
        obtain ⟨A', c', w', h1, h2, h3, h4, h5⟩ := h
        have hlen' : (S.mk (l.take k) (idM r) (idM n) 0).a.length = k := hlen
        rw [hva, hrow, hlen'] at h1
        rw [hlen'] at h4 h5
        refine ⟨A', c', w', h1, h2, h3, ?_, HQ.out.2.trans ((hb.mono HQ.out.2.size).trans h5)⟩
        rw [← htk]
        exact h4
      clear hM hva ha1 ha2 hl0 hcells hu hI hrow htk hlen
      go_wp2_with fail
      go_region_law (first
        | (go_simp
           go_at_call 37
           (refine (HCL.out _ (below_drew (Below.refl _ _))).mono ?_)
           rintro e w4 ⟨g, c, rfl, hx, hg, hc3, hc4, hb4⟩
           obtain ⟨A', c', w5, hR5, ⟨u5, hu5⟩, hf5, hWk5, hB5⟩ := HPUSH.out w4 g c ((below_drew (Below.refl _ _)).trans hb4) hx hg hc3 hc4
           have hd4 : w4.cell? ⟨b, 0, none⟩ = some (.slice Aa k ca) := (((below_drew (Below.refl wr.heap.size wr)).trans hb4).cell (p := ⟨b, 0, none⟩) (World.block_lt_of_cell? wr _ d0)).trans d0
           have hbl4 : b < w4.heap.size := World.block_lt_of_cell? w4 _ hd4
           have HR5 := Lib.hid hR5
           have HF5 := Lib.hid (And.intro hWk5 hB5)
           clear hx hg hc3 hc4 hb4 hR5 hWk5 hB5)
        | (refine step_sel 40 ?_
           refine step_val rfl (r_app (.tmp 36) (.tmp 39) 40 rfl rfl rfl HR5.out) ?_))
      all_goals
        go_wp2_with fail
        go_roundw
        case rel => exact ⟨k + 1, by omega, by go_num, Lib.hid (by first | exact HF5.out | exact ⟨HF5.out.1.drewN 1, below_drew HF5.out.2⟩)⟩
        case measure => simp [intOf]; omega
    · obtain rfl : k = r := by omega
      have htake : (S.mk (l.take k) (idM k) (idM n) 0) = S.start n l := by
        rw [HR.out, List.take_length]; rfl
      obtain ⟨m, hm⟩ := ho
      have hbase := base_start HV.out
      have HRUN := Lib.hid (run35_any w.heap.size b l.length n wr (S.start n l) o m (by rw [← HR.out]; omega) (by omega) (by rw [← htake]; exact HQ.out.1) HQ.out.2.size hbase hm)
      have HEND : Hid (∀ s, o = some s → Sm.End l.length n s) := Lib.hid fun s hs => out_end HV.out ⟨m, by rw [hm, hs]⟩
      clear htake hm hbase HCC
      cases o with
      | none =>
        go_wp2_with (go_at_call 38; (refine HRUN.out.mono ?_); rintro e w6 ⟨hch, rfl⟩; have HCH := Lib.hid hch; clear hch)
        exact bodyPost_ret (v := .tuple #[.slice none 0 0, .slice none 0 0, .slice none 0 0, .int .i64 5]) (by simp [results, Tryz.results13, go_sem]) rfl ⟨⟨_, _, _, rfl, intsAt_nil, tab_nil, tab_nil, fun r hr => by cases hr⟩, HQ.out.2.trans HCH.out.below⟩
      | some s =>
        have HE := Lib.hid (HEND.out s rfl)
        have htb : s.t ≤ n := HE.out.tn
        have htr : s.t ≤ l.length := HE.out.tr
        rw [← HR.out] at htr
        go_wp2_with (go_at_call 38; (refine HRUN.out.mono ?_); rintro e w6 ⟨hch, rfl, hw6⟩; have HCH := Lib.hid (HQ.out.2.trans hch.below); have HW6 := Lib.hid hw6; have hc3 := hw6.cell3.1; clear hch hw6)
        have hbd : ∀ i, -1000000000 ≤ dia s i ∧ dia s i ≤ 1000000000 := fun i => HE.out.toBase.bda i i
        have HBD := Lib.hid hbd
        obtain ⟨T0, hT0⟩ : ∃ T0, T0 = s.t := ⟨_, rfl⟩
        rw [← hT0] at hc3 htb htr ⊢
        have HT0 := Lib.hid hT0
        have HLOOK : Hid (∀ i, i < T0 → ∃ g d bt ct, w6.cell? ⟨b, 0, none⟩ = some (.slice (some ⟨g, 0, none⟩) k d) ∧ w6.cell? ⟨g, i, none⟩ = some (.slice (some ⟨bt, 0, none⟩) n ct) ∧ w6.cell? ⟨bt, i, none⟩ = some (.int .i64 (dia s i)) ∧ n ≤ ct ∧ ct ≤ 9223372036854775807 ∧ k ≤ d ∧ d ≤ 9223372036854775807) := Lib.hid fun i hi => by
          have hsh := HE.out.sh
          rw [← HR.out] at hsh
          obtain ⟨g, d, bt, ct, q1, q2, q3, q4, q5, q6, q7, q8⟩ := HW6.out.look hsh (i := i) (j := i) (by omega) (by omega)
          exact ⟨g, d, bt, ct, q1, q3, q4, q5, q6, q7, q8⟩
        clear hbd hT0
        have hTb : (T0 : Int) ≤ 16 := by omega
        go_loopw [4, 51] (fun zd z wr => ∃ (i : Nat) (A : Option Addr) (c : Nat), i ≤ T0 ∧ z = .int .i64 i ∧ zd = .slice A i c ∧ Hid (OwnI w6.heap.size wr (.slice A i c) ((diagOf s).take i) ∧ Below w6.heap.size w6 wr)) (fun _ z _ => T0 - (intOf z).toNat)
        case atStart => exact ⟨0, none, 0, by omega, rfl, rfl, Lib.hid ⟨World.ownsRow_nil _ _ _ _, Below.refl _ _⟩⟩
        case round =>
          obtain ⟨i, A, c, hi, rfl, rfl, HI⟩ := hrel
          have hi0 : (0 : Int) ≤ (i : Int) := Int.natCast_nonneg _
          by_cases hil : i < T0
          · have hil' : (i : Int) < (T0 : Int) := by omega
            obtain ⟨g, d, bt, ct, q1, q3, q4, q5, q6, q7, q8⟩ := HLOOK.out i hil
            have p1 := (HI.out.2.cell (p := ⟨b, 0, none⟩) (World.block_lt_of_cell? w6 _ q1)).trans q1
            have p3 := (HI.out.2.cell (p := ⟨g, i, none⟩) (World.block_lt_of_cell? w6 _ q3)).trans q3
            have p4 := (HI.out.2.cell (p := ⟨bt, i, none⟩) (World.block_lt_of_cell? w6 _ q4)).trans q4
            have hik : (i : Int) < (k : Int) := by omega
            have hin : (i : Int) < (n : Int) := by omega
            have hlen : ((diagOf s).take i).length = i := by rw [List.length_take, length_diagOf, ← HT0.out]; omega
            have hdt := diag_take s (i := i) (by rw [← HT0.out]; exact hil)
            obtain ⟨A', c', w8, hr8, ho8, hg8, -⟩ := push_int 25 25 Tryz.underlying25 wr w6.heap.size (.slice A i c) ((diagOf s).take i) HI.out.1 (dia s i) (by omega) HI.out.2.size
            rw [hlen] at hr8 ho8
            rw [hdt] at ho8
            have HR8 := Lib.hid hr8
            have HN8 : Hid (OwnI w6.heap.size w8 (.slice A' (i + 1) c') ((diagOf s).take (i + 1)) ∧ Below w6.heap.size w6 w8) := Lib.hid ⟨ho8, HI.out.2.grown hg8 HI.out.2.size (fun r hr => (owns_block HI.out.1 r hr).1)⟩
            clear q1 q3 q4 hlen hdt hr8 ho8 hg8 hc3
            generalize dia s i = z at *
            go_wp2_with ((with_reducible refine wpList_sel 66 ?_); refine wpList_val rfl (r_app (.tmp 54) (.tmp 65) 25 rfl rfl rfl HR8.out) ?_)
            go_roundw
            case rel => exact ⟨i + 1, A', c', by omega, by go_num, rfl, HN8⟩
            case measure => simp [intOf]; omega
          · obtain rfl : i = T0 := by omega
            have hdl : (diagOf s).take i = diagOf s := List.take_of_length_le (by rw [length_diagOf, ← HT0.out]; exact Nat.le_refl _)
            obtain ⟨vs, bl, cs, hM⟩ := HW6.out.below HI.out.2
            obtain ⟨d0, d1, d2, d3, d4⟩ := hM.cells
            obtain ⟨Au', cu', hvu, -, -⟩ := hM.form (k := 1) (by omega)
            obtain ⟨Av', cv', hvv, -, -⟩ := hM.form (k := 2) (by omega)
            have htu : Tab wr (vs 1) s.u := hM.tab (k := 1) (by omega) (fits_mat HE.out.toBase.bdu)
            have htv : Tab wr (vs 2) s.v := hM.tab (k := 2) (by omega) (fits_mat HE.out.toBase.bdv)
            rw [show s.mat 1 = s.u from rfl] at hvu
            rw [show s.mat 2 = s.v from rfl] at hvv
            rw [hvu] at d1 htu
            rw [hvv] at d2 htv
            have hdi : IntsAt wr (.slice A i c) (diagOf s) := by
              have h := HI.out.1
              rw [hdl] at h
              exact OwnI.ints h fun z hz => by
                simp only [diagOf, List.mem_map] at hz
                obtain ⟨j, -, rfl⟩ := hz
                have := HBD.out j
                unfold dia at this
                omega
            have HSEP : Hid (∀ r, (Value.slice A i c).ownBlock = some r → w.heap.size ≤ r) := Lib.hid fun r hr => Nat.le_trans HCH.out.size (owns_block HI.out.1 r hr).1
            have HRES := Lib.hid (And.intro hdi (And.intro htu (And.intro htv (HCH.out.trans (HI.out.2.mono HCH.out.size)))))
            clear hM hvu hvv htu htv hdi d0 d3 d4 hdl hc3
            generalize s.u.length = lu at *
            generalize s.v.length = lv at *
            go_wp2_with fail
            go_quiet (fail)
            go_wp2_with fail
            exact bodyPost_ret (v := .tuple #[.slice A i c, .slice Au' lu cu', .slice Av' lv cv', .int .i64 0]) (by simp [results, Tryz.results13, go_sem]) rfl ⟨⟨_, _, _, rfl, HRES.out.1.drewN _, kept_tab.below HRES.out.2.1 (below_drewN (Below.refl _ _) _), kept_tab.below HRES.out.2.2.1 (below_drewN (Below.refl _ _) _), HSEP.out⟩, below_drewN HRES.out.2.2.2 _⟩
end Go.Proofs
namespace Go.Proofs
open Go.RowKit Go.Shelf Go.Proofs.Sm
/-- the index of the first hit, or -1 -/
def IdxAt (p : Int → Bool) (xs : List Int) (e : Ending) : Prop := (e = .returned (.int .i64 (-1)) ∧ ∀ j, j < xs.length → p (xs.getD j 0) = false) ∨ ∃ k : Nat, e = .returned (.int .i64 (k : Int)) ∧ k < xs.length ∧ p (xs.getD k 0) = true ∧ ∀ j, j < k → p (xs.getD j 0) = false
section
variable (g : Nat) (lb : Array Value) (ok : Int → Prop) (p : Int → Bool) (w : World) (eg : ∀ args w, (callFunc g args).run Tryz.prog w = .ok (.enter g args) w) (hp : PredW g lb ok p w) (v : Value) (xs : List Int) (h : IntsAt w v xs) (hok : ∀ x ∈ xs, ok x)
include eg hp h hok
set_option maxHeartbeats 400000 in
theorem idx60_at : Calls Tryz.prog 56 #[v, .func (.func g) #[] lb] w fun e w' => IdxAt p xs e ∧ ∃ q, w' = w.drewN q := by
  obtain ⟨A, c, rfl, hc1, hc2, hc⟩ := h.open_
  have HC := Lib.hid hc
  have HP := Lib.hid hp
  have HK := Lib.hid hok
  clear hc hp h hok
  go_enter Tryz.func56, Tryz.ntmps56
  go_wp2_with fail
  go_loopw [5, 8] (fun _ i wr => ∃ k : Nat, k ≤ xs.length ∧ i = .int .i64 k ∧ (∀ j, j < k → p (xs.getD j 0) = false) ∧ ∃ q, wr = w.drewN q) (fun _ i _ => xs.length - (intOf i).toNat)
  case atStart => exact ⟨0, Nat.zero_le _, rfl, fun j hj => absurd hj (by omega), 0, rfl⟩
  case round =>
    obtain ⟨k, hk, rfl, hz, q, rfl⟩ := hrel
    have HZ := Lib.hid hz
    clear hz
    by_cases hlt : k < xs.length
    · obtain ⟨b, o, rfl, hcc⟩ := HC.out (by omega)
      have hck := hcc k hlt
      have hx : ok (xs.getD k 0) := HK.out _ (by rw [List.getD_eq_getElem?_getD, List.getElem?_eq_getElem hlt]; exact List.getElem_mem hlt)
      clear hcc
      generalize hxe : xs.getD k 0 = x at *
      have HXE := Lib.hid hxe
      clear hxe
      have HX := Lib.hid hx
      clear hx
      have hcall := HP.out x q HX.out
      cases hq : p x with
      | true =>
        rw [hq] at hcall
        have HQ := Lib.hid hq
        clear hq
        have HCALL := Lib.hid hcall
        clear hcall
        go_wp2_with (go_at_fn g; (refine HCALL.out.mono ?_); rintro e w' ⟨rfl, q', rfl⟩)
        go_ret
        exact ⟨.inr ⟨k, rfl, hlt, by rw [HXE.out]; exact HQ.out, HZ.out⟩, _, rfl⟩
      | false =>
        rw [hq] at hcall
        have HQ := Lib.hid hq
        clear hq
        have HCALL := Lib.hid hcall
        clear hcall
        go_wp2_with (go_at_fn g; (refine HCALL.out.mono ?_); rintro e w' ⟨rfl, q', rfl⟩)
        go_roundw
        case rel => exact ⟨k + 1, by omega, by go_num, all_succ HZ.out (by rw [HXE.out]; exact HQ.out), _, rfl⟩
        case measure => simp [intOf]; omega
    · obtain rfl : k = xs.length := by omega
      go_wp2_with fail
      go_ret
      exact ⟨.inl ⟨rfl, HZ.out⟩, _, rfl⟩
end
theorem filter_all {p : Int → Bool} {xs : List Int} (h : ∀ j, j < xs.length → p (xs.getD j 0) = false) : (xs.filter fun x => !p x) = xs := by
  rw [List.filter_eq_self]
  intro x hx
  obtain ⟨i, hi, rfl⟩ := List.getElem_of_mem hx
  have := h i hi
  rw [List.getD_eq_getElem?_getD, List.getElem?_eq_getElem hi] at this
  simpa using this
/-- a list under way: the first i are what is left of the first j of xs -/
structure DelTo (p : Int → Bool) (xs ys : List Int) (i j : Nat) : Prop where
  len : ys.length = xs.length
  lt : i < j
  front : ys.take i = (xs.take j).filter fun x => !p x
  back : ∀ q, j ≤ q → ys.getD q 0 = xs.getD q 0
theorem DelTo.start {p : Int → Bool} {xs : List Int} {k : Nat} (hk : k < xs.length) (hp : p (xs.getD k 0) = true) (hz : ∀ j, j < k → p (xs.getD j 0) = false) : DelTo p xs xs k (k + 1) := by
  refine ⟨rfl, by omega, ?_, fun q _ => rfl⟩
  rw [List.take_succ_eq_append_getElem hk, List.filter_append]
  have h1 : ((xs.take k).filter fun x => !p x) = xs.take k := filter_all fun j hj => by
    rw [List.length_take] at hj
    have := hz j (by omega)
    rwa [show (xs.take k).getD j 0 = xs.getD j 0 by simp [List.getD_eq_getElem?_getD, show j < k by omega]]
  rw [h1]
  rw [List.getD_eq_getElem?_getD, List.getElem?_eq_getElem hk] at hp
  have hp' : p xs[k] = true := hp
  simp [hp']
theorem DelTo.keep {p : Int → Bool} {xs ys : List Int} {i j : Nat} (h : DelTo p xs ys i j) (hj : j < xs.length) (hp : p (xs.getD j 0) = false) : DelTo p xs (ys.set i (xs.getD j 0)) (i + 1) (j + 1) := by
  have hl := h.lt
  refine ⟨by simp [h.len], by omega, ?_, fun q hq => by rw [getD_set_, if_neg (by omega)]; exact h.back q (by omega)⟩
  rw [List.take_succ_eq_append_getElem hj, List.filter_append, ← h.front]
  rw [List.getD_eq_getElem?_getD, List.getElem?_eq_getElem hj] at hp ⊢
  have hp' : p xs[j] = false := hp
  rw [List.take_succ_eq_append_getElem (by rw [List.length_set, h.len]; omega)]
  have e : (ys.set i xs[j]).take i = ys.take i := by rw [List.take_set]; exact List.set_eq_of_length_le (by rw [List.length_take]; omega)
  simp [hp', e]
theorem DelTo.skip {p : Int → Bool} {xs ys : List Int} {i j : Nat} (h : DelTo p xs ys i j) (hj : j < xs.length) (hp : p (xs.getD j 0) = true) : DelTo p xs ys i (j + 1) := by
  have hl := h.lt
  refine ⟨h.len, by omega, ?_, fun q hq => h.back q (by omega)⟩
  rw [h.front, List.take_succ_eq_append_getElem hj, List.filter_append]
  rw [List.getD_eq_getElem?_getD, List.getElem?_eq_getElem hj] at hp
  have hp' : p xs[j] = true := hp
  simp [hp']
theorem zero3 (w : World) : (zeroValue 3).run Tryz.prog w = .ok (.int .i64 0) w := by kernel_rfl
def DelPost (xs : List Int) (base : Nat) (w : World) (e : Ending) (w' : World) : Prop := (∃ v, e = .returned v ∧ IntsAt w' v xs) ∧ Below base w w'
set_option maxRecDepth 100000 in
set_option maxHeartbeats 1000000 in
theorem delete39_any (base fn : Nat) (ok : Int → Prop) (p : Int → Bool) (w : World) (eg : ∀ args w, (callFunc fn args).run Tryz.prog w = .ok (.enter fn args) w) (hp : ∀ W, PredW fn #[] ok p W) (g c : Nat) (xs : List Int) (hx : XsAt w g xs) (hg : base ≤ g) (hc1 : xs.length ≤ c) (hc2 : c ≤ 9223372036854775807) (hf : Fits xs) (hok : ∀ x ∈ xs, ok x) :
    Calls Tryz.prog 39 #[.slice (some ⟨g, 0, none⟩) xs.length c, .func (.func fn) #[] #[]] w (DelPost (xs.filter fun x => !p x) base w) := by
  have HIDX := Lib.hid (idx60_at fn #[] ok p w eg (hp w) (.slice (some ⟨g, 0, none⟩) xs.length c) xs (hx.ints rfl hc1 hc2 hf) hok)
  have HX := Lib.hid hx
  have HP := Lib.hid hp
  have HF := Lib.hid hf
  have HOK : Hid (∀ j, j < xs.length → ok (xs.getD j 0)) := Lib.hid fun j hj => hok _ (by rw [List.getD_eq_getElem?_getD, List.getElem?_eq_getElem hj]; exact List.getElem_mem hj)
  have HEG := Lib.hid eg
  clear hx hp hf hok
  have hx0 : (0 : Int) ≤ (xs.length : Int) := Int.natCast_nonneg _
  go_enter Tryz.func39, Tryz.ntmps39
  go_wp2_with fail
  refine HIDX.out.mono ?_
  rintro e w1 ⟨hidx, q, rfl⟩
  rcases hidx with ⟨rfl, hall⟩ | ⟨k, rfl, hk, hhit, hbef⟩
  · have HALL := Lib.hid (filter_all hall)
    clear hall
    go_wp2_with fail
    go_ret
    exact ⟨⟨_, rfl, by rw [HALL.out]; exact (HX.out.ints rfl hc1 hc2 HF.out).drewN _⟩, below_drewN (Below.refl _ _) _⟩
  · have HD := Lib.hid (DelTo.start hk hhit hbef)
    have hd1 : ((k : Int) == -1) = false := beq_eq_false_iff_ne.2 (by omega)
    have hkb : (k : Int) < (xs.length : Int) := by omega
    have hk0 : (0 : Int) ≤ (k : Int) := Int.natCast_nonneg _
    have hk1 : k + 1 ≤ xs.length := hk
    clear hhit hbef hk
    go_wp2_with fail
    go_loopw [5, 6, 7] (fun zi zj _ wr => ∃ (i j : Nat) (ys : List Int), zi = .int .i64 i ∧ zj = .int .i64 j ∧ j ≤ xs.length ∧ Hid (DelTo p xs ys i j ∧ XsAt wr g ys ∧ Below base w wr)) (fun _ zj _ _ => xs.length - (intOf zj).toNat)
    case atStart => exact ⟨k, k + 1, xs, rfl, by go_num, hk1, Lib.hid ⟨HD.out, HX.out.keep rfl, below_drewN (Below.refl _ _) _⟩⟩
    case round =>
      obtain ⟨i, j, ys, rfl, rfl, hj, HI⟩ := hrel
      have hi0 : (0 : Int) ≤ (i : Int) := Int.natCast_nonneg _
      have hj0 : (0 : Int) ≤ (j : Int) := Int.natCast_nonneg _
      have hij := HI.out.1.lt
      by_cases hlt : j < xs.length
      · have hlt' : (j : Int) < (xs.length : Int) := by omega
        have hilt : (i : Int) < (xs.length : Int) := by omega
        have hcj := HI.out.2.1.cell (k := j) (by rw [HI.out.1.len]; exact hlt)
        rw [HI.out.1.back j (Nat.le_refl _)] at hcj
        have hci := HI.out.2.1.cell (k := i) (by rw [HI.out.1.len]; omega)
        have hfi := HI.out.2.1.frozen i
        have hcall := HP.out wr (xs.getD j 0) 0 (HOK.out j hlt)
        have HKEEP := Lib.hid (fun h => HI.out.1.keep hlt h)
        have HSKIP := Lib.hid (fun h => HI.out.1.skip hlt h)
        have HSET := Lib.hid (fun z => HI.out.2.1.set (k := i) (by rw [HI.out.1.len]; omega) z)
        generalize xs.getD j 0 = z at *
        generalize ys.getD i 0 = y at *
        cases hq : p z with
        | true =>
          rw [hq] at hcall
          have HC := Lib.hid hcall
          have HN := Lib.hid (HSKIP.out hq)
          clear hcall hq
          go_wp2_with (go_at_fn fn; (refine HC.out.mono ?_); rintro e w' ⟨rfl, q', rfl⟩)
          go_roundw
          case rel => exact ⟨i, j + 1, ys, rfl, by go_num, by omega, Lib.hid ⟨HN.out, HI.out.2.1.keep rfl, below_drewN HI.out.2.2 _⟩⟩
          case measure => simp [intOf]; omega
        | false =>
          rw [hq] at hcall
          have HC := Lib.hid hcall
          have HN := Lib.hid (HKEEP.out hq)
          clear hcall hq
          go_wp2_with (go_at_fn fn; (refine HC.out.mono ?_); rintro e w' ⟨rfl, q', rfl⟩)
          go_roundw
          case rel => exact ⟨i + 1, j + 1, ys.set i z, by go_num, by go_num, by omega, Lib.hid ⟨HN.out, by first | exact (HSET.out z).keep rfl | exact HSET.out z, by first | exact below_drewN (HI.out.2.2.setCell (p := ⟨g, i, none⟩) hg _) _ | exact HI.out.2.2.setCell (p := ⟨g, i, none⟩) hg _⟩⟩
          case measure => simp [intOf]; omega
      · obtain rfl : j = xs.length := by omega
        have hylen := HI.out.1.len
        have hfr := HI.out.1.front
        rw [List.take_length] at hfr
        have HFR := Lib.hid hfr
        have hcl : ∀ ty, (Builtin.clear_ #[25] ty #[.slice (some ⟨g, i, none⟩) (xs.length - i) (c - i)]).run Tryz.prog wr = .ok (.tuple #[]) (wr.setCells g i (List.replicate (xs.length - i) (.int .i64 0))) := fun ty =>
          Lib.run_clear_slice wr _ _ ty _ Tryz.underlying25 zero3 rfl rfl g i _ _ (by omega) (fun t ht => by rw [HI.out.2.1.cell (k := i + t) (by rw [hylen]; omega)]; rfl) (fun t ht => HI.out.2.1.frozen _)
        have HRES : Hid (IntsAt (wr.setCells g i (List.replicate (xs.length - i) (.int .i64 0))) (.slice (some ⟨g, 0, none⟩) i c) (ys.take i)) := Lib.hid (by
          have hti : (ys.take i).length = i := by rw [List.length_take, hylen]; omega
          refine ⟨⟨_, i, c, rfl, by rw [length_ints, hti], by omega, by unfold maxLen; omega, fun _ => ⟨g, 0, rfl, fun m v hv => ?_⟩⟩, fun z hz => ?_⟩
          · have hm : m < i := by
              have := (List.getElem?_eq_some_iff.1 hv).1
              rw [length_ints, hti] at this
              exact this
            rw [World.cell?_setCells_out g _ i wr ⟨g, 0 + m, none⟩ (fun _ _ => .inl (by show 0 + m < i; omega)), Nat.zero_add, HI.out.2.1.cell (k := m) (by rw [hylen]; omega), ← hv]
            have hmy : m < ys.length := by omega
            simp [ints, hm, hmy, List.getD_eq_getElem?_getD]
          · rw [HFR.out] at hz
            exact HF.out z (List.mem_filter.1 hz).1)
        have HB : Hid (Below base w (wr.setCells g i (List.replicate (xs.length - i) (.int .i64 0)))) := Lib.hid (HI.out.2.2.trans (Lib.below_setCells_w hg _ _ _))
        clear hylen hfr
        have hilt : (i : Int) < (xs.length : Int) := by omega
        have hic : (i : Int) ≤ (c : Int) := by omega
        have hcap : ¬ c = i := by omega
        go_wp2_with fail
        go_ret
        exact ⟨⟨_, rfl, by rw [← HFR.out]; exact HRES.out⟩, HB.out⟩
end Go.Proofs
