/- drawn: the matrix that numbers select; shape and mul; det; det; SmithForms, plainly; SmithForms; SmithForms, where a form is found; word.size, cmp.Compare at numbers, word.Check at a word that passes; word.Sums at a word that passes. -/
import Derived.Test.YthfachbkcmifbaaOrCS8
import Derived.Maps.AppendAt
namespace Go.Proofs
open Go.RowKit Go.Shelf Go.Proofs.Sm
/-- the e-th number drawn -/
def dr (l : List Int) (e : Nat) : Int := takeV l (min e l.length) 13 - 6
def drRow (l : List Int) (n i : Nat) : List Int := (List.range n).map fun k => dr l (i * n + k)
def drawnE (l : List Int) (rows n : Nat) : Mat := (List.range rows).map (drRow l n)
theorem take_min (l : List Int) (e : Nat) : takeN l (min e l.length) = min (e + 1) l.length := by
  unfold takeN
  split <;> omega
theorem dr_bd (l : List Int) (e : Nat) : -6 ≤ dr l e ∧ dr l e ≤ 6 := by
  unfold dr takeV
  split
  · have h1 := Int.emod_nonneg (l.getD (min e l.length) 0) (show (13 : Int) ≠ 0 by omega)
    have h2 := Int.emod_lt_of_pos (l.getD (min e l.length) 0) (show (0 : Int) < 13 by omega)
    omega
  · omega
theorem drawnE_length (l : List Int) (rows n : Nat) : (drawnE l rows n).length = rows := by simp [drawnE]
theorem drRow_length (l : List Int) (n i : Nat) : (drRow l n i).length = n := by simp [drRow]
theorem drawnE_succ (l : List Int) (i n : Nat) : drawnE l (i + 1) n = drawnE l i n ++ [drRow l n i] := by simp [drawnE, List.range_succ]
theorem drPre_succ (l : List Int) (n i k : Nat) : (List.range (k + 1)).map (fun k => dr l (i * n + k)) = (List.range k).map (fun k => dr l (i * n + k)) ++ [dr l (i * n + k)] := by simp [List.range_succ]
/-- w' is w with new blocks and another block b -/
theorem gr_trans {w w1 w2 : World} {b : Nat} (h : w.grownBy w1 (some b)) (h' : w1.grownBy w2 (some b)) : w.grownBy w2 (some b) :=
  ⟨h'.os.trans h.os, h'.tape.trans h.tape, h'.output.trans h.output, Nat.le_trans h.size h'.size, fun i hi hne => (h'.block i (Nat.lt_of_lt_of_le hi h.size) hne).trans (h.block i hi hne)⟩
theorem gr_own {w w1 w2 : World} {b : Nat} {row : Option Nat} (h : w.grownBy w1 (some b)) (h' : w1.grownBy w2 row) (hr : ∀ r, row = some r → w.heap.size ≤ r) : w.grownBy w2 (some b) :=
  ⟨h'.os.trans h.os, h'.tape.trans h.tape, h'.output.trans h.output, Nat.le_trans h.size h'.size, fun i hi hne => (h'.block i (Nat.lt_of_lt_of_le hi h.size) (fun e => by have := hr i e.symm; omega)).trans (h.block i hi hne)⟩
theorem below_gr {w w1 : World} {b : Nat} (h : w.grownBy w1 (some b)) (hb : b < w.heap.size) : Below b w w1 := ⟨h.os, h.tape, h.output, h.size, fun i hi => h.block i (by omega) (fun e => by have := Option.some.inj e; omega)⟩
/-- the drawing under way: i rows are whole, the next one has k numbers -/
structure DrawM (b n i k : Nat) (w wr : World) (At : Option Addr) (ct : Nat) (l : List Int) (v : Value) (bl cs : Nat → Nat) (vr : Value) : Prop where
  mat : MatM w.heap.size wr v bl cs (drawnE l i n)
  row : OwnI w.heap.size wr vr ((List.range k).map fun k => dr l (i * n + k))
  sep : ∀ j, j < i → vr.ownBlock ≠ some (bl j)
  tk : TkM b wr At ct l (min (i * n + k) l.length)
  gr : w.grownBy wr (some b)
theorem DrawM.sepv {b n i k : Nat} {w wr : World} {At : Option Addr} {ct : Nat} {l : List Int} {v : Value} {bl cs : Nat → Nat} {vr : Value} (h : DrawM b n i k w wr At ct l v bl cs vr) : ∀ r, v.ownBlock = some r → vr.ownBlock ≠ some r := fun r hr e => by
  obtain ⟨-, C, hC⟩ := owns_block h.mat.out r hr
  obtain ⟨-, C', hC'⟩ := owns_block h.row r e
  rw [hC] at hC'
  injection hC' with h5
  injection h5 with _ h6 _
  exact absurd h6 (by decide)
/-- a number is taken -/
theorem DrawM.taken {b n i k : Nat} {w wr w1 : World} {At : Option Addr} {ct : Nat} {l : List Int} {v : Value} {bl cs : Nat → Nat} {vr : Value} (h : DrawM b n i k w wr At ct l v bl cs vr) (hb : b < w.heap.size) (htk : TkM b w1 At ct l (takeN l (min (i * n + k) l.length))) (hg : wr.grownBy w1 (some b)) :
    MatM w.heap.size w1 v bl cs (drawnE l i n) ∧ OwnI w.heap.size w1 vr ((List.range k).map fun k => dr l (i * n + k)) ∧ TkM b w1 At ct l (min (i * n + (k + 1)) l.length) ∧ w.grownBy w1 (some b) := by
  refine ⟨h.mat.same (fun r hr => ?_) (fun j hj => ?_), owns_keep h.row fun r hr => ?_, by rw [take_min] at htk; exact htk, gr_trans h.gr hg⟩
  · have h1 := h.mat.lt.2 r hr
    exact hg.block r h1.2 (fun e => by have := Option.some.inj e; omega)
  · have h1 := h.mat.lt.1 j hj
    have h2 := (h.mat.row j hj).1
    exact hg.block _ h1 (fun e => by have := Option.some.inj e; omega)
  · have h1 := (owns_block h.row r hr).1
    exact hg.block r (owns_lt h.row hr) (fun e => by have := Option.some.inj e; omega)
/-- the number joins the row -/
theorem DrawM.add {b n i k : Nat} {w wr w1 : World} {At : Option Addr} {ct : Nat} {l : List Int} {v : Value} {bl cs : Nat → Nat} {vr : Value} (h : DrawM b n i k w wr At ct l v bl cs vr) (hb : b < w.heap.size) (htk : TkM b w1 At ct l (takeN l (min (i * n + k) l.length))) (hg : wr.grownBy w1 (some b)) (hk : k ≤ 1000) :
    ∃ A' c' w', (Builtin.append_ #[25, 25] 25 #[vr, .slice (some ⟨w1.heap.size, 0, none⟩) 1 1]).run Try.prog (w1.alloc (.cells #[.int .i64 (dr l (i * n + k))] 3)) = .ok (.slice A' (k + 1) c') w' ∧ DrawM b n i (k + 1) w w' At ct l v bl cs (.slice A' (k + 1) c') := by
  obtain ⟨h1, h2, h3, h4⟩ := h.taken hb htk hg
  have hlen : ((List.range k).map fun k => dr l (i * n + k)).length = k := by simp
  obtain ⟨A', c', w', hr, ho, hgr, hw⟩ := push_int 25 25 Try.underlying25 w1 w.heap.size vr _ h2 (dr l (i * n + k)) (by rw [hlen]; omega) h4.size
  rw [hlen] at hr ho hw
  rw [← drPre_succ] at ho
  have hrow := owns_block h2
  refine ⟨A', c', w', hr, h1.same (fun r hr' => hgr.block r (h1.lt.2 r hr').2 (fun e => h.sepv r hr' e.symm)) (fun j hj => hgr.block _ (h1.lt.1 j hj) (fun e => h.sep j (by rw [drawnE_length] at hj; exact hj) e.symm)), ho, fun j hj e => ?_, h3.keep fun p hp => hgr.block p (by have := h4.size; omega) (fun e => by have := (hrow p e.symm).1; omega), gr_own h4 hgr fun r hr' => (hrow r hr').1⟩
  rcases hw with hw | ⟨r, hr', hge⟩
  · exact h.sep j hj (by rw [← hw]; exact e)
  · rw [hr'] at e
    have e2 := Option.some.inj e
    have := h1.lt.1 j (by rw [drawnE_length]; exact hj)
    omega
/-- the row joins the matrix -/
theorem DrawM.done {b n i : Nat} {w wr : World} {At : Option Addr} {ct : Nat} {l : List Int} {A : Option Addr} {c : Nat} {v : Value} {bl cs : Nat → Nat} (h : DrawM b n i n w wr At ct l v bl cs (.slice A n c)) (hb : b < w.heap.size) (hn : 1 ≤ n) (hi : i ≤ 1000) :
    ∃ A' c' w' bl' cs', (Builtin.append_ #[22, 22] 22 #[v, .slice (some ⟨wr.heap.size, 0, none⟩) 1 1]).run Try.prog (wr.alloc (.cells #[.slice A n c] 25)) = .ok (.slice A' (i + 1) c') w' ∧ MatM w.heap.size w' (.slice A' (i + 1) c') bl' cs' (drawnE l (i + 1) n) ∧ TkM b w' At ct l (min ((i + 1) * n) l.length) ∧ w.grownBy w' (some b) := by
  have hrow : OwnI w.heap.size wr (.slice A (drRow l n i).length c) (drRow l n i) := by
    rw [drRow_length]; exact h.row
  obtain ⟨g, rfl, hx, hg, hc1, hc2⟩ := owns_xs hrow (by rw [drRow_length]; exact hn)
  obtain ⟨A', c', w', hr, ⟨bl', cs', hm⟩, hgr⟩ := h.mat.push h.gr.size hx hg hc1 hc2 (fun j hj e => h.sep j (by rw [drawnE_length] at hj; exact hj) (by show some g = some (bl j); rw [e])) (by rw [drawnE_length]; omega)
  rw [drawnE_length, drRow_length] at hr
  rw [drawnE_length, ← drawnE_succ] at hm
  have hv := owns_block h.mat.out
  refine ⟨A', c', w', bl', cs', hr, hm, ?_, gr_own h.gr hgr fun r hr' => (hv r hr').1⟩
  have htk := h.tk
  rw [show i * n + n = (i + 1) * n by rw [Nat.add_mul]; omega] at htk
  exact htk.keep fun p hp => hgr.block p (by have := h.gr.size; omega) (fun e => by have := (hv p e.symm).1; omega)
def DrawnPost (b rows n : Nat) (At : Option Addr) (ct : Nat) (l : List Int) (w : World) (e : Ending) (w' : World) : Prop := ∃ A c bl cs, e = .returned (.slice A rows c) ∧ MatM w.heap.size w' (.slice A rows c) bl cs (drawnE l rows n) ∧ TkM b w' At ct l (min (rows * n) l.length) ∧ w.grownBy w' (some b)
set_option maxRecDepth 100000 in
set_option maxHeartbeats 1000000 in
theorem drawn20_any (b rows n : Nat) (w : World) (At : Option Addr) (ct : Nat) (l : List Int) (hT : TkM b w At ct l 0) (hn : 1 ≤ n) (hn2 : n ≤ 100) (hr : rows ≤ 100) : Calls Try.prog 20 #[.pointer (some ⟨b, 0, none⟩), .int .i64 (rows : Int), .int .i64 (n : Int)] w (DrawnPost b rows n At ct l w) := by
  have hb := hT.lt
  have HT := Lib.hid hT
  clear hT
  have hr0 : (0 : Int) ≤ (rows : Int) := Int.natCast_nonneg _
  have hrb : (rows : Int) ≤ 100 := by omega
  have hnb : (n : Int) ≤ 100 := by omega
  go_enter Try.func20, Try.ntmps20
  go_wp2_with fail
  go_loopw [7, 8] (fun zv z wr => ∃ (i : Nat) (A : Option Addr) (c : Nat), i ≤ rows ∧ z = .int .i64 i ∧ zv = .slice A i c ∧ Hid ((∃ bl cs, MatM w.heap.size wr (.slice A i c) bl cs (drawnE l i n)) ∧ TkM b wr At ct l (min (i * n) l.length) ∧ w.grownBy wr (some b))) (fun _ z _ => rows - (intOf z).toNat)
  case atStart => exact ⟨0, none, 0, by omega, rfl, rfl, Lib.hid ⟨⟨_, _, MatM.nil _ _⟩, by rw [show min (0 * n) l.length = 0 by simp]; exact HT.out, World.grownBy.refl _ _⟩⟩
  case round =>
    obtain ⟨i, A, c, hi, rfl, rfl, HQ⟩ := hrel
    have hi0 : (0 : Int) ≤ (i : Int) := Int.natCast_nonneg _
    by_cases hlt : i < rows
    · have hlt' : (i : Int) < (rows : Int) := by omega
      obtain ⟨⟨bl, cs, hM⟩, hT, hG⟩ := HQ.out
      have HST : Hid (DrawM b n i 0 w wr At ct l (.slice A i c) bl cs (.slice none 0 0)) := Lib.hid ⟨hM, World.ownsRow_nil _ _ _ _, fun j hj e => (by cases e), by rw [Nat.add_zero]; exact hT, hG⟩
      clear hM hT hG
      go_wp2_with fail
      go_loopw [9, 10] (fun zr z wr => ∃ (k : Nat) (A' : Option Addr) (c' : Nat), k ≤ n ∧ z = .int .i64 k ∧ zr = .slice A' k c' ∧ Hid (DrawM b n i k w wr At ct l (.slice A i c) bl cs (.slice A' k c'))) (fun _ z _ => n - (intOf z).toNat)
      case atStart => exact ⟨0, none, 0, by omega, rfl, rfl, HST⟩
      case round =>
        obtain ⟨k, A', c', hk, rfl, rfl, HD⟩ := hrel
        have hk0 : (0 : Int) ≤ (k : Int) := Int.natCast_nonneg _
        by_cases hkl : k < n
        · have hkl' : (k : Int) < (n : Int) := by omega
          have HTAKE := Lib.hid (take25_any b wr At ct l _ 13 HD.out.tk (by omega) (by omega))
          have hdb := dr_bd l (i * n + k)
          have hdv : dr l (i * n + k) = takeV l (min (i * n + k) l.length) 13 - 6 := rfl
          have HADD : Hid (∀ w1, TkM b w1 At ct l (takeN l (min (i * n + k) l.length)) → wr.grownBy w1 (some b) → ∃ A'' c'' w', (Builtin.append_ #[25, 25] 25 #[.slice A' k c', .slice (some ⟨w1.heap.size, 0, none⟩) 1 1]).run Try.prog (w1.alloc (.cells #[.int .i64 (takeV l (min (i * n + k) l.length) 13 - 6)] 3)) = .ok (.slice A'' (k + 1) c'') w' ∧ DrawM b n i (k + 1) w w' At ct l (.slice A i c) bl cs (.slice A'' (k + 1) c'')) := Lib.hid fun w1 h1 h2 => by
            have h := HD.out.add hb h1 h2 (by omega)
            rw [hdv] at h
            exact h
          rw [hdv] at hdb
          clear hdv
          go_wp2_with (first
            | (go_at_call 25; (refine HTAKE.out.mono ?_); rintro e w1 ⟨rfl, htk, hg⟩
               obtain ⟨A2, c2, w2, hr2, hd2⟩ := HADD.out w1 htk hg
               have HR2 := Lib.hid hr2
               have HD2 := Lib.hid hd2
               clear htk hg hr2 hd2)
            | ((with_reducible refine wpList_sel 26 ?_); refine wpList_val rfl (r_app (.tmp 21) (.tmp 25) 25 rfl rfl rfl HR2.out) ?_))
          go_roundw
          case rel => exact ⟨k + 1, A2, c2, by omega, by go_num, rfl, HD2⟩
          case measure => simp [intOf]; omega
        · obtain rfl : k = n := by omega
          obtain ⟨A2, c2, w2, bl2, cs2, hr2, hm2, ht2, hg2⟩ := HD.out.done hb hn (by omega)
          have HR2 := Lib.hid hr2
          have HN := Lib.hid (And.intro hm2 (And.intro ht2 hg2))
          clear hr2 hm2 ht2 hg2
          go_wp2_with ((with_reducible refine wpList_sel 30 ?_); refine wpList_val rfl (r_app (.tmp 27) (.tmp 29) 22 rfl rfl rfl HR2.out) ?_)
          go_roundw
          case rel => exact ⟨i + 1, A2, c2, by omega, by go_num, rfl, Lib.hid ⟨⟨_, _, HN.out.1⟩, HN.out.2.1, HN.out.2.2⟩⟩
          case measure => simp [intOf]; omega
    · obtain rfl : i = rows := by omega
      obtain ⟨⟨bl, cs, hM⟩, hT, hG⟩ := HQ.out
      have HR := Lib.hid (And.intro hM (And.intro hT hG))
      clear hM hT hG
      go_wp2_with fail
      go_ret
      exact ⟨A, c, bl, cs, rfl, HR.out.1, HR.out.2.1, HR.out.2.2⟩
end Go.Proofs
namespace Go.Proofs
open Go.RowKit Go.Shelf Go.Proofs.Sm
theorem wr_wrap64 (n : Int) : wrap64 n = wr n := by unfold wrap64 wr; rfl
theorem wr_wrap (n : Int) : IntKind.i64.wrap n = wr n := (IntWalk.i64_left n).trans (wr_wrap64 n)
/-- a product under way -/
structure MulM (g i : Nat) (w wr : World) (a b : Mat) (n : Nat) (v : Value) (bl cs : Nat → Nat) (xs : List Int) : Prop where
  mat : MatM w.heap.size wr v bl cs ((mulW n a b).take i)
  row : XsAt wr g xs
  ge : w.heap.size ≤ g
  sep : ∀ j, j < ((mulW n a b).take i).length → bl j ≠ g
  below : Below w.heap.size w wr
theorem MulM.set {g i : Nat} {w wr : World} {a b : Mat} {n : Nat} {v : Value} {bl cs : Nat → Nat} {xs : List Int} (h : MulM g i w wr a b n v bl cs xs) {k : Nat} (hk : k < xs.length) (z : Int) : MulM g i w (wr.setCell ⟨g, k, none⟩ (.int .i64 z)) a b n v bl cs (xs.set k z) := by
  obtain ⟨C, hC, -⟩ := id h.row
  have hne : ∀ p, p ≠ g → (wr.setCell ⟨g, k, none⟩ (.int .i64 z)).heap[p]? = wr.heap[p]? := fun p hp => Below.heap_setCell wr ⟨g, k, none⟩ _ p hp
  refine ⟨h.mat.same (fun r hr => hne r fun e => ?_) (fun j hj => hne _ (h.sep j hj)), h.row.set hk z, h.ge, h.sep, h.below.setCell (p := ⟨g, k, none⟩) h.ge _⟩
  obtain ⟨-, C', hC'⟩ := owns_block h.mat.out r hr
  rw [e, hC] at hC'
  injection hC' with h5
  injection h5 with _ h6 _
  exact absurd h6 (by decide)
theorem MulM.drew {g i : Nat} {w wr : World} {a b : Mat} {n : Nat} {v : Value} {bl cs : Nat → Nat} {xs : List Int} (h : MulM g i w wr a b n v bl cs xs) (q : Nat) : MulM g i w (wr.drewN q) a b n v bl cs xs := ⟨h.mat.same (fun _ _ => rfl) (fun _ _ => rfl), h.row.keep rfl, h.ge, h.sep, below_drewN h.below q⟩
end Go.Proofs
namespace Go.Proofs
open Go.RowKit Go.Shelf Go.Proofs.Sm
theorem own37_any (w : World) (v : Value) (y : List Int) (h : IntsAt w v y) (hl : y.length ≤ 1000000) :
    Calls Try.prog 37 #[v] w fun e w' => ∃ A c, e = .returned (.slice A y.length c) ∧ OwnI w.heap.size w' (.slice A y.length c) y ∧ Below w.heap.size w w' := by
  obtain ⟨A0, c0, w', hr, hb, ho⟩ := run_copy Try.underlying25 h hl
  have HR := Lib.hid hr
  have HB := Lib.hid hb
  have HO := Lib.hid ho
  clear hr hb ho h
  go_enter Try.func37, Try.ntmps37
  go_wp2_with ((with_reducible refine wpList_sel 5 ?_); refine wpList_val rfl (r_app (.tmp 3) (.tmp 4) 25 rfl rfl rfl HR.out) ?_)
  go_ret
  exact ⟨_, _, rfl, HO.out, HB.out⟩
theorem run_append_nil2 {P : Program} (w : World) (base : Nat) (t ty e : TypeId) (i : TypeInfo) (ht : P.underlying t = some (.slice e)) (hi : P.info? e = some i) (c : Nat)
    (v : Value) (n : Nat) (xs : List Value) (hown : w.ownsRow base e 1 v n xs) : (Builtin.append_ #[t, t] ty #[v, .slice none 0 c]).run P w = .ok v w := by
  rcases hown.2 with ⟨rfl, rfl⟩ | ⟨g, cap, cur, rfl, _, _, hnc, _⟩
  · simp [Builtin.append_, run_underlying ht, sizeOf, typeInfo, hi, Builtin.lenOf, Builtin.firstCells]
  · simp [Builtin.append_, run_underlying ht, sizeOf, typeInfo, hi, Builtin.lenOf, Builtin.firstCells, hnc, storeCells]
/-- append(v, u...): u readable, v of the call's own -/
theorem run_append_ints (ty t : TypeId) (ht : Try.prog.underlying t = some (.slice 3)) (w : World) (base : Nat) (v u : Value) (x y : List Int) (h : OwnI base w v x) (hu : IntsAt w u y) (hx : x.length ≤ 1000000) (hy : y.length ≤ 1000000) (hb : base ≤ w.heap.size) :
    ∃ A' c' w', (Builtin.append_ #[t, t] ty #[v, u]).run Try.prog w = .ok (.slice A' (x ++ y).length c') w' ∧ OwnI base w' (.slice A' (x ++ y).length c') (x ++ y) ∧ w.grownBy w' v.ownBlock ∧
      ((Value.slice A' (x ++ y).length c').ownBlock = v.ownBlock ∨ ∃ r, (Value.slice A' (x ++ y).length c').ownBlock = some r ∧ w.heap.size ≤ r) := by
  obtain ⟨i3, hi3, hz3, hs3, hb3⟩ := info3p
  have hl : (x ++ y).length = x.length + y.length := List.length_append
  obtain ⟨A, c, rfl, hc1, hc2, hc⟩ := hu.open_
  cases A with
  | none =>
    have h0 : y = [] := by
      rcases Nat.eq_zero_or_pos y.length with h0 | h0
      · exact List.length_eq_zero_iff.1 h0
      · obtain ⟨b, off, hx, -⟩ := hc h0
        cases hx
    subst h0
    obtain ⟨A', c', e⟩ := owns_form h
    subst e
    rw [List.append_nil]
    exact ⟨A', c', w, run_append_nil2 w base t ty 3 i3 ht hi3 c _ _ _ h, h, World.grownBy.refl w _, .inl rfl⟩
  | some a =>
    have hcells : ∀ j u, (ints y)[j]? = some u → w.cell? (a.add j) = some u := by
      intro j u hju
      have hj : j < y.length := by
        have := (List.getElem?_eq_some_iff.1 hju).1
        simpa [ints] using this
      obtain ⟨b, off, e, hcc⟩ := hc (by omega)
      cases e
      rw [Addr.add_lit, hcc j hj, ← hju]
      simp [ints, hj, List.getD_eq_getElem?_getD]
    obtain ⟨v', w', hr, hown, hg, -, hw⟩ := run_append_own_at (P := Try.prog) w base t ty 3 i3 (.int .i64 0) 1 8 ht hi3 hz3 hs3 hb3 rfl (by omega) v x.length (ints x) h a y.length c (ints y) (by simp [ints]) hcells (fun u hu => by
      obtain ⟨z, -, rfl⟩ := List.mem_map.1 hu; rfl) (by unfold maxLen; omega) (by omega) hb
    obtain ⟨A', c', rfl⟩ := owns_form hown
    refine ⟨A', c', w', by rw [hr, hl], by unfold OwnI; rw [hl, show ints (x ++ y) = ints x ++ ints y by simp [ints]]; exact hown, hg, by rw [hl]; exact hw.imp id fun hh => ⟨_, hh, Nat.le_refl _⟩⟩
/-- the first m rows of what is left without row 0 and column j -/
def dropRow (y : List Int) (j : Nat) : List Int := y.take j ++ y.drop (j + 1)
def lessTo (a : Mat) (j m : Nat) : Mat := (List.range m).map fun i => dropRow (a.getD (i + 1) []) j
theorem lessTo_length (a : Mat) (j m : Nat) : (lessTo a j m).length = m := by simp [lessTo]
theorem lessTo_succ (a : Mat) (j m : Nat) : lessTo a j (m + 1) = lessTo a j m ++ [dropRow (a.getD (m + 1) []) j] := by simp [lessTo, List.range_succ]
theorem dropRow_length {y : List Int} {j k : Nat} (h : y.length = k + 1) (hj : j < k + 1) : (dropRow y j).length = k := by simp [dropRow]; omega
theorem dropRow_getD {y : List Int} {j : Nat} (h : j < y.length) (q : Nat) : (dropRow y j).getD q 0 = y.getD (skip j q) 0 := by
  unfold dropRow skip
  rw [List.getD_eq_getElem?_getD, List.getD_eq_getElem?_getD]
  split
  · rename_i hq
    rw [List.getElem?_append_left (by rw [List.length_take]; omega), List.getElem?_take, if_pos hq]
  · rw [List.getElem?_append_right (by rw [List.length_take]; omega), List.length_take, List.getElem?_drop]
    congr 2; omega
theorem lessTo_ent {a : Mat} {k j : Nat} (ha : Rect a (k + 1) (k + 1)) (hj : j < k + 1) {i : Nat} (hi : i < k) (q : Nat) : ent (lessTo a j k) i q = ent a (i + 1) (skip j q) := by
  have : (lessTo a j k).getD i [] = dropRow (a.getD (i + 1) []) j := by simp [lessTo, List.getD_eq_getElem?_getD, hi]
  unfold ent
  rw [this, dropRow_getD (by rw [rect_row ha (by omega)]; exact hj)]
theorem lessTo_rect {a : Mat} {k j : Nat} (ha : Rect a (k + 1) (k + 1)) (hj : j < k + 1) : Rect (lessTo a j k) k k := ⟨lessTo_length a j k, fun x hx => by
  obtain ⟨i, hi, rfl⟩ := List.mem_map.1 hx
  exact dropRow_length (rect_row ha (by have := List.mem_range.1 hi; omega)) hj⟩
theorem lessTo_fits {a : Mat} {k j : Nat} (ha : Rect a (k + 1) (k + 1)) (hf : ∀ y ∈ a, Fits y) : ∀ y ∈ lessTo a j k, Fits y := fun y hy => by
  obtain ⟨i, hi, rfl⟩ := List.mem_map.1 hy
  have hi' := List.mem_range.1 hi
  have hm : a.getD (i + 1) [] ∈ a := by
    rw [List.getD_eq_getElem?_getD, List.getElem?_eq_getElem (by rw [ha.1]; omega)]
    exact List.getElem_mem _
  intro x hx
  unfold dropRow at hx
  rcases List.mem_append.1 hx with h | h
  · exact hf _ hm x (List.mem_of_mem_take h)
  · exact hf _ hm x (List.mem_of_mem_drop h)
theorem lessTo_det {a : Mat} {k j : Nat} (ha : Rect a (k + 1) (k + 1)) (hj : j < k + 1) : detE k (ent (lessTo a j k)) = detE k fun i q => ent a (i + 1) (skip j q) :=
  det_congr fun _i q hi _ => lessTo_ent ha hj hi q
def detTo (k j : Nat) (f : Nat → Nat → Int) : Int := wr (sumN j fun j => sgn j * f 0 j * detE k fun i q => f (i + 1) (skip j q))
theorem detTo_succ (k j : Nat) (f : Nat → Nat → Int) : wr (detTo k j f + wr (wr (sgn j * f 0 j) * wr (detE k fun i q => f (i + 1) (skip j q)))) = detTo k (j + 1) f := wr_det_step k j f
theorem detTo_zero {k j : Nat} {f : Nat → Nat → Int} (h : f 0 j = 0) : detTo k (j + 1) f = detTo k j f := by
  unfold detTo
  rw [sumN_succ, h, Int.mul_zero, Int.zero_mul, Int.add_zero]
theorem sgn_succ (j : Nat) : sgn (j + 1) = - sgn j := by
  unfold sgn
  by_cases h : j % 2 = 0
  · rw [if_pos h, if_neg (by omega)]
  · rw [if_neg h, if_pos (by omega)]; rfl
theorem sgn_bd (j : Nat) : -1 ≤ sgn j ∧ sgn j ≤ 1 := by unfold sgn; split <;> omega
theorem ints_sliced {w : World} {A : Option Addr} {c k h : Nat} {l : List Int} (hI : IntsAt w (.slice A l.length c) l) (hk : k ≤ h) (hh : h ≤ l.length) : IntsAt w (sliced A k h c 1) ((l.take h).drop k) := by
  obtain ⟨⟨A0, n, cap, e, h1, h2, h3, h4⟩, hf⟩ := hI
  obtain ⟨rfl, rfl, rfl⟩ := Value.slice.inj e
  refine ⟨⟨_, _, _, rfl, by simp [ints]; omega, by omega, by omega, fun hp => ?_⟩, fun y hy => hf y (List.mem_of_mem_take (List.mem_of_mem_drop hy))⟩
  obtain ⟨b, off, rfl, hr⟩ := h4 (by omega)
  refine ⟨b, off + k, ?_, fun j v hj => ?_⟩
  · rw [if_neg (by omega), Nat.mul_one]
    exact congrArg some (Addr.add_mid b off k)
  · have hj' : (ints l)[k + j]? = some v := by
      simp only [ints, List.getElem?_map, List.getElem?_drop, List.getElem?_take] at hj ⊢
      split at hj
      · exact hj
      · simp at hj
    have := hr (k + j) v hj'
    rwa [show off + k + j = off + (k + j) by omega]
/-- a row of less joins -/
theorem less_push {w wr : World} {v : Value} {bl cs : Nat → Nat} {a : Mat} {j m k : Nat} (hM : MatM w.heap.size wr v bl cs (lessTo a j m)) (hB : Below w.heap.size w wr) {y : List Int} (hy : y = a.getD (m + 1) []) (hlen : y.length = k + 1) (hj : j < k + 1) (hm : m ≤ 1000) (hk : 1 ≤ k) (hk2 : k ≤ 1000)
    {w1 : World} {A1 : Option Addr} {c1 : Nat} (ho : OwnI wr.heap.size w1 (.slice A1 j c1) (y.take j)) (hb1 : Below wr.heap.size wr w1) {u : Value} (hu : IntsAt w1 u (y.drop (j + 1))) :
    ∃ A2 c2 w2, (Builtin.append_ #[25, 25] 25 #[.slice A1 j c1, u]).run Try.prog w1 = .ok (.slice A2 k c2) w2 ∧ Below w.heap.size w w2 ∧
      ∃ A3 c3 w3, (Builtin.append_ #[22, 22] 22 #[v, .slice (some ⟨w2.heap.size, 0, none⟩) 1 1]).run Try.prog (w2.alloc (.cells #[.slice A2 k c2] 25)) = .ok (.slice A3 (m + 1) c3) w3 ∧
        (∃ bl cs, MatM w.heap.size w3 (.slice A3 (m + 1) c3) bl cs (lessTo a j (m + 1))) ∧ Below w.heap.size w w3 := by
  obtain ⟨A2, c2, w2, hr2, ho2, hg2, -⟩ := run_append_ints 25 25 Try.underlying25 w1 wr.heap.size _ _ _ _ ho hu (by rw [List.length_take]; omega) (by rw [List.length_drop]; omega) hb1.size
  have hl2 : (y.take j ++ y.drop (j + 1)).length = k := dropRow_length hlen hj
  rw [hl2] at hr2
  have hB2 : Below wr.heap.size wr w2 := hb1.grown hg2 hb1.size fun r hr => (owns_block ho r hr).1
  obtain ⟨g, rfl, hx, hge, hc1, hc2⟩ := owns_xs ho2 (by rw [hl2]; exact hk)
  rw [hl2] at hc1
  have hMk := hM.keep hB2
  obtain ⟨A3, c3, w3, hr3, ⟨bl3, cs3, hm3⟩, hg3⟩ := hMk.push (Nat.le_trans hB.size hB2.size) hx (Nat.le_trans hB.size hge) (by rw [hl2]; exact hc1) hc2 (fun i hi e => by have := hM.lt.1 i hi; omega) (by rw [lessTo_length]; omega)
  rw [lessTo_length, hl2] at hr3
  rw [lessTo_length] at hm3
  refine ⟨_, c2, w2, hr2, hB.trans (hB2.mono hB.size), A3, c3, w3, hr3, ⟨bl3, cs3, ?_⟩, (hB.trans (hB2.mono hB.size)).grown hg3 (Nat.le_trans hB.size hB2.size) fun r hr => (owns_block hMk.out r hr).1⟩
  rw [lessTo_succ, ← hy]
  exact hm3
end Go.Proofs
namespace Go.Proofs
open Go.RowKit Go.Shelf Go.Proofs.Sm
def DetPost (z : Int) (w : World) (e : Ending) (w' : World) : Prop := e = .returned (.int .i64 z) ∧ Below w.heap.size w w'
set_option maxRecDepth 100000 in
theorem det23_zero (w : World) (v : Value) (a : Mat) (h : Tab w v a) (ha : Rect a 0 0) : Calls Try.prog 23 #[v] w (DetPost (wr (detE 0 (ent a))) w) := by
  obtain ⟨A0, c0, rfl, h1, h2, hc⟩ := h.open_
  rw [ha.1]
  have hw : wr (detE 0 (ent a)) = 1 := by rw [det0]; decide
  rw [hw]
  clear hc h h1 h2 ha hw
  go_enter Try.func23, Try.ntmps23
  go_wp2_with fail
  go_ret
  exact ⟨rfl, Below.refl _ _⟩
set_option maxRecDepth 100000 in
set_option maxHeartbeats 2000000 in
theorem det23_step (k K : Nat) (hK : K = k + 1) (hk : k ≤ 100) (IH : ∀ (w : World) (v : Value) (a : Mat), Tab w v a → Rect a k k → Calls Try.prog 23 #[v] w (DetPost (wr (detE k (ent a))) w)) (w : World) (v : Value) (a : Mat) (h : Tab w v a) (ha : Rect a (k + 1) (k + 1)) : Calls Try.prog 23 #[v] w (DetPost (wr (detE (k + 1) (ent a))) w) := by
  obtain ⟨A0, c0, rfl, h1, h2, hc⟩ := h.open_
  have HA := Lib.hid ha
  have hal0 : a.length = K := by rw [ha.1, hK]
  rw [hal0] at h1 hc ⊢
  have HC := Lib.hid hc
  have HIH := Lib.hid IH
  have HE : Hid (wr (detE (k + 1) (ent a)) = detTo k (k + 1) (ent a)) := Lib.hid rfl
  generalize wr (detE (k + 1) (ent a)) = ZR at *
  have HK := Lib.hid hK
  have hKb : (K : Int) ≤ 101 := by omega
  have hK1 : (1 : Int) ≤ (K : Int) := by omega
  have hK2 : ((K : Int) == 0) = false := by rw [beq_eq_false_iff_ne]; omega
  have hK3 : 0 < K := by omega
  have HF : Hid (∀ y ∈ a, Fits y) := Lib.hid fun y hy => by
    obtain ⟨i, hi, rfl⟩ := List.getElem_of_mem hy
    obtain ⟨b, o, -, hcc⟩ := hc hK3
    obtain ⟨u, -, hI⟩ := hcc i (by rw [← hal0]; exact hi)
    have := hI.2
    rwa [List.getD_eq_getElem?_getD, List.getElem?_eq_getElem hi] at this
  clear h hc IH ha hal0 hK
  go_enter Try.func23, Try.ntmps23
  go_wp2_with fail
  go_loopw [3, 4, 5] (fun zs zg z wr => ∃ (j : Nat), j ≤ K ∧ z = .int .i64 j ∧ zs = .int .i64 (detTo k j (ent a)) ∧ zg = .int .i64 (sgn j) ∧ Hid (Below w.heap.size w wr)) (fun _ _ z _ => K - (intOf z).toNat)
  case atStart => exact ⟨0, by omega, rfl, by rfl, by rfl, Lib.hid (Below.refl _ _)⟩
  case round =>
    obtain ⟨j, hj, rfl, rfl, rfl, HB⟩ := hrel
    have hj0 : (0 : Int) ≤ (j : Int) := Int.natCast_nonneg _
    by_cases hlt : j < K
    · have hlt' : (j : Int) < (K : Int) := by omega
      have hj1 : (0 : Int) ≤ (j : Int) + 1 := by omega
      have hj2 : (j : Int) + 1 ≤ (K : Int) := by omega
      go_wp2_with fail
      go_loopw [6, 7] (fun zl z wr => ∃ (m i : Nat) (A : Option Addr) (c : Nat), 1 ≤ i ∧ i ≤ K ∧ Hid (i = m + 1) ∧ z = .int .i64 (i : Int) ∧ zl = .slice A m c ∧ Hid ((∃ bl cs, MatM w.heap.size wr (.slice A m c) bl cs (lessTo a j m)) ∧ Below w.heap.size w wr)) (fun _ z _ => K - (intOf z).toNat)
      case atStart => exact ⟨0, 1, none, 0, by omega, by omega, Lib.hid rfl, rfl, rfl, Lib.hid ⟨⟨_, _, MatM.nil _ _⟩, HB.out⟩⟩
      case round =>
        obtain ⟨m, i, A, c, hi1, hi2, HM, rfl, rfl, HQ⟩ := hrel
        have hi0 : (0 : Int) ≤ (i : Int) := Int.natCast_nonneg _
        by_cases hml : i < K
        · have hml' : (i : Int) < (K : Int) := by omega
          obtain ⟨⟨bl, cs, hM⟩, hB⟩ := HQ.out
          obtain ⟨bo, oo, rfl, hcells⟩ := HC.out (by omega)
          obtain ⟨u, hu, hI⟩ := hcells i hml
          obtain ⟨A1, c1, rfl, e1, e2, e3⟩ := hI.open_
          have hal : (a.getD i []).length = K := by rw [HK.out]; exact rect_row HA.out (by rw [← HK.out]; exact hml)
          obtain ⟨y, hy⟩ : ∃ y, y = a.getD i [] := ⟨_, rfl⟩
          rw [← hy] at hal hu hI e1 e3
          have hI2 := kept_ints.below hI hB
          have hu' := (hB.cell (p := ⟨bo, oo + i, none⟩) (World.block_lt_of_cell? w _ hu)).trans hu
          rw [hal] at hu' e1
          have hs1 := ints_sliced (k := 0) (h := j) hI2 (by omega) (by omega)
          have hs2 := ints_sliced (k := j + 1) (h := y.length) hI2 (by omega) (by omega)
          obtain ⟨b1, o1, rfl, -⟩ := e3 (by omega)
          rw [List.drop_zero] at hs1
          rw [List.take_length, hal] at hs2
          have HOWN : Hid (∀ W, Below wr.heap.size wr W → Calls Try.prog 37 #[sliced (some ⟨b1, o1, none⟩) 0 j c1 1] W fun e w' => ∃ A1 c1', e = .returned (.slice A1 j c1') ∧ Hid (Below w.heap.size w w') ∧
            ∃ A2 c2 w2, (Builtin.append_ #[25, 25] 25 #[.slice A1 j c1', sliced (some ⟨b1, o1, none⟩) (j + 1) K c1 1]).run Try.prog w' = .ok (.slice A2 k c2) w2 ∧ Hid (Below w.heap.size w w2) ∧
              ∃ A3 c3 w3, (Builtin.append_ #[22, 22] 22 #[.slice A m c, .slice (some ⟨w2.heap.size, 0, none⟩) 1 1]).run Try.prog (w2.alloc (.cells #[.slice A2 k c2] 25)) = .ok (.slice A3 (m + 1) c3) w3 ∧
                Hid ((∃ bl cs, MatM w.heap.size w3 (.slice A3 (m + 1) c3) bl cs (lessTo a j (m + 1))) ∧ Below w.heap.size w w3)) := Lib.hid fun W hbW => by
            have hc := own37_any W _ _ (kept_ints.below hs1 hbW) (by rw [List.length_take]; omega)
            refine hc.mono fun e w' ⟨Ax, cx, he, ho, hb⟩ => ?_
            rw [List.length_take, show min j y.length = j by omega] at he ho
            have hb2 := hbW.trans (hb.mono hbW.size)
            have hp := less_push (k := k) (y := y) hM hB (by rw [hy, HM.out]) (by rw [hal, HK.out]) (by rw [← HK.out]; exact hlt) (by have := HM.out; omega) (by have := HM.out; have := HK.out; omega) (by omega) (owns_base ho hbW.size) hb2 (kept_ints.below hs2 hb2)
            obtain ⟨A2, c2, w2, p1, p0, A3, c3, w3, p2, p3⟩ := hp
            exact ⟨Ax, cx, he, Lib.hid (hB.trans (hb2.mono hB.size)), A2, c2, w2, p1, Lib.hid p0, A3, c3, w3, p2, Lib.hid p3⟩
          have HCELL : Hid (∀ W, Below w.heap.size w W → W.cell? ⟨bo, oo + i, none⟩ = some (.slice (some ⟨b1, o1, none⟩) K c1)) := Lib.hid fun W hW => by
            rw [hal] at hu
            exact (hW.cell (p := ⟨bo, oo + i, none⟩) (World.block_lt_of_cell? w _ hu)).trans hu
          have hu2 : wr.cell? ⟨bo, oo + i, none⟩ = some (.slice (some ⟨b1, o1, none⟩) K c1) := hu'
          clear hs1 hs2 hI2 hI hcells hM hB hu hu' e3 hal hy
          have hc1 : (K : Int) ≤ (c1 : Int) := by omega
          have hc2 : (j : Int) ≤ (c1 : Int) := by omega
          have hw1 : IntKind.i64.wrap ((j : Int) + 1) = (j : Int) + 1 := (wr_wrap _).trans (wr_in (by omega))
          have hsl : sliced (some ⟨b1, o1, none⟩) 0 j c1 1 = .slice (some ⟨b1, o1, none⟩) j c1 := by
            unfold sliced; rw [if_neg (by omega)]; rfl
          rw [hsl] at HOWN
          clear hsl
          obtain ⟨u2, hu2v⟩ : ∃ u2, u2 = sliced (some ⟨b1, o1, none⟩) (j + 1) K c1 1 := ⟨_, rfl⟩
          rw [← hu2v] at HOWN
          by_cases hcj : c1 = j + 1
          · have hv : u2 = .slice (some ⟨b1, o1, none⟩) 0 0 := by rw [hu2v]; unfold sliced; rw [if_pos hcj, hcj, Nat.sub_self, show K - (j + 1) = 0 by omega]
            subst hv
            subst hcj
            have hc3 : (j : Int) ≤ (j : Int) + 1 := by omega
            clear hu2v hc2
            go_wp2_with fail
            go_region_held3 (fun W => W.cell? ⟨bo, oo + i, none⟩ = some (.slice (some ⟨b1, o1, none⟩) K (j + 1))) (first | (with_reducible exact HS1.out) | (with_reducible exact HS2.out) | (with_reducible exact HS3.out) | (with_reducible exact HS4.out) | go_keep) 
              (first
                | (go_at_call 37; (refine (HOWN.out _ (below_drew (Below.refl _ _))).mono ?_); rintro e w1 ⟨A1, c1', rfl, HB1, A2, c2', w2, hr2, HB2, A3, c3, w3, hr3, HN⟩; have HS1 := Lib.hid (HCELL.out _ HB1.out); have HS2 := Lib.hid (HCELL.out _ HB2.out); have HS3 := Lib.hid (HCELL.out _ HN.out.2); have HS4 := Lib.hid (HCELL.out _ (HB2.out.alloc HB2.out.size (.cells #[.slice A2 k c2'] 25))); have HR2 := Lib.hid hr2; have HR3 := Lib.hid hr3; clear hr2 hr3)
                | (refine step_sel 38 ?_; refine step_val rfl (r_app (.tmp 30) (.tmp 37) 25 rfl rfl rfl HR2.out) ?_)
                | (refine step_sel 40 ?_; refine step_val rfl (r_app (.tmp 23) (.tmp 39) 22 rfl rfl rfl HR3.out) ?_))
            go_wp2_with fail
            go_roundw
            case rel => exact ⟨m + 1, i + 1, A3, c3, by omega, by omega, Lib.hid (by rw [HM.out]), by go_num, rfl, Lib.hid HN.out⟩
            case measure => simp [intOf]; omega
          · have hv : u2 = .slice (some ⟨b1, o1 + (j + 1), none⟩) (K - (j + 1)) (c1 - (j + 1)) := by rw [hu2v]; unfold sliced; rw [if_neg hcj, Nat.mul_one]; exact congrArg (fun a => Value.slice (some a) (K - (j + 1)) (c1 - (j + 1))) (Addr.add_mid b1 o1 (j + 1))
            subst hv
            clear hu2v
            go_wp2_with fail
            go_region_held3 (fun W => W.cell? ⟨bo, oo + i, none⟩ = some (.slice (some ⟨b1, o1, none⟩) K c1)) (first | (with_reducible exact HS1.out) | (with_reducible exact HS2.out) | (with_reducible exact HS3.out) | (with_reducible exact HS4.out) | go_keep) 
              (first
                | (go_at_call 37; (refine (HOWN.out _ (below_drew (Below.refl _ _))).mono ?_); rintro e w1 ⟨A1, c1', rfl, HB1, A2, c2', w2, hr2, HB2, A3, c3, w3, hr3, HN⟩; have HS1 := Lib.hid (HCELL.out _ HB1.out); have HS2 := Lib.hid (HCELL.out _ HB2.out); have HS3 := Lib.hid (HCELL.out _ HN.out.2); have HS4 := Lib.hid (HCELL.out _ (HB2.out.alloc HB2.out.size (.cells #[.slice A2 k c2'] 25))); have HR2 := Lib.hid hr2; have HR3 := Lib.hid hr3; clear hr2 hr3)
                | (refine step_sel 38 ?_; refine step_val rfl (r_app (.tmp 30) (.tmp 37) 25 rfl rfl rfl HR2.out) ?_)
                | (refine step_sel 40 ?_; refine step_val rfl (r_app (.tmp 23) (.tmp 39) 22 rfl rfl rfl HR3.out) ?_))
            go_wp2_with fail
            go_roundw
            case rel => exact ⟨m + 1, i + 1, A3, c3, by omega, by omega, Lib.hid (by rw [HM.out]), by go_num, rfl, Lib.hid HN.out⟩
            case measure => simp [intOf]; omega
        · obtain rfl : i = K := by omega
          have hmk : m = k := by have := HM.out; have := HK.out; omega
          subst hmk
          obtain ⟨⟨bl, cs, hM⟩, hB⟩ := HQ.out
          obtain ⟨bo, oo, rfl, hcells⟩ := HC.out hK3
          obtain ⟨u, hu, hI⟩ := hcells 0 hK3
          obtain ⟨A1, c1, rfl, e1, e2, e3⟩ := hI.open_
          have hal : (a.getD 0 []).length = i := by rw [HK.out]; exact rect_row HA.out (by omega)
          rw [hal] at e1 e3 hu
          obtain ⟨b1, o1, rfl, hcc⟩ := e3 hK3
          have hx := hcc j hlt
          have HCELL : Hid (∀ W, Below w.heap.size w W → W.cell? ⟨bo, oo, none⟩ = some (.slice (some ⟨b1, o1, none⟩) i c1) ∧ W.cell? ⟨b1, o1 + j, none⟩ = some (.int .i64 ((a.getD 0 []).getD j 0))) := Lib.hid fun W hW => ⟨(hW.cell (p := ⟨bo, oo + 0, none⟩) (World.block_lt_of_cell? w _ hu)).trans hu, (hW.cell (p := ⟨b1, o1 + j, none⟩) (World.block_lt_of_cell? w _ hx)).trans hx⟩
          have HDET : Hid (∀ W, Below wr.heap.size wr W → Calls Try.prog 23 #[.slice A m c] W fun e w' => e = .returned (.int .i64 (Sm.wr (detE m fun i q => ent a (i + 1) (skip j q)))) ∧ Below w.heap.size w w') := Lib.hid fun W hbW => by
            have hl : (lessTo a j m).length = m := lessTo_length a j m
            have hc := HIH.out W (.slice A m c) (lessTo a j m) ((hM.keep hbW).tab (lessTo_fits HA.out HF.out)) (lessTo_rect HA.out (by rw [← HK.out]; exact hlt))
            rw [lessTo_det HA.out (by rw [← HK.out]; exact hlt)] at hc
            exact hc.mono fun e w' ⟨h1, h2⟩ => ⟨h1, (hB.trans (hbW.mono hB.size)).trans (h2.mono (Nat.le_trans hB.size hbW.size))⟩
          have HSUM : Hid (detTo m (j + 1) (ent a) = Sm.wr (detTo m j (ent a) + Sm.wr (Sm.wr (sgn j * ent a 0 j) * Sm.wr (detE m fun i q => ent a (i + 1) (skip j q))))) := Lib.hid (detTo_succ m j (ent a)).symm
          have HZERO : Hid (ent a 0 j = 0 → detTo m (j + 1) (ent a) = detTo m j (ent a)) := Lib.hid fun h => detTo_zero h
          have HXE : Hid ((a.getD 0 []).getD j 0 = ent a 0 j) := Lib.hid rfl
          rw [HXE.out] at HCELL
          obtain ⟨hs1, hs2⟩ := HCELL.out wr hB
          have hfx := hI.2.at_ j
          rw [HXE.out] at hfx
          have HSG := Lib.hid (sgn_succ j)
          have HB2 := Lib.hid hB
          have hsb := sgn_bd j
          clear hM hB hcells hu hI e3 hcc hx hal HXE HQ
          generalize ent a 0 j = x at *
          generalize Sm.wr (detE m fun i q => ent a (i + 1) (skip j q)) = d at *
          generalize hs' : detTo m (j + 1) (ent a) = s' at *
          generalize detTo m j (ent a) = s at *
          generalize hg' : sgn (j + 1) = g' at *
          generalize sgn j = g at *
          have hw0 : IntKind.i64.wrap (-g) = -g := IntWalk.i64_in _ (by omega)
          by_cases hx0 : x = 0
          · have hd : (x != 0) = false := by simpa using hx0
            have hss : s' = s := HZERO.out hx0
            clear hx0 HZERO HSUM HDET
            go_wp2_with fail
            go_roundw
            case rel => exact ⟨j + 1, by omega, by go_num, by rw [hs', hss], by rw [hg', HSG.out], HB2⟩
            case measure => simp [intOf]; omega
          · have hd : (x != 0) = true := by simpa using hx0
            clear hx0 HZERO
            have hw1 := wr_wrap (g * x)
            have hw2 := wr_wrap64 (g * x)
            generalize Sm.wr (g * x) = p1 at *
            have hw3 := wr_wrap (p1 * d)
            have hw4 := wr_wrap64 (p1 * d)
            generalize Sm.wr (p1 * d) = p2 at *
            have hw5 := wr_wrap (s + p2)
            have hw6 := wr_wrap64 (s + p2)
            rw [← HSUM.out] at hw5 hw6
            go_wp2_with fail
            go_region_held3 (fun W => W.cell? ⟨bo, oo, none⟩ = some (.slice (some ⟨b1, o1, none⟩) i c1) ∧ W.cell? ⟨b1, o1 + j, none⟩ = some (.int .i64 x)) (first | (with_reducible exact HS1.out) | go_keep)
              ((go_at_call 23; (refine (HDET.out _ (below_drew (Below.refl _ _))).mono ?_); rintro e w1 ⟨rfl, hb1⟩; have HB3 := Lib.hid hb1; have HS1 := Lib.hid (HCELL.out _ hb1); clear hb1))
            go_wp2_with fail
            go_roundw
            case rel => exact ⟨j + 1, by omega, by go_num, by rw [hs'], by rw [hg', HSG.out], HB3⟩
            case measure => simp [intOf]; omega
    · obtain rfl : j = K := by omega
      have HE2 : Hid (detTo k j (ent a) = ZR) := Lib.hid (by rw [HE.out, HK.out])
      go_wp2_with fail
      go_ret
      exact ⟨ret_int HE2.out, HB.out⟩
theorem det23_any : ∀ (k : Nat), k ≤ 100 → ∀ (w : World) (v : Value) (a : Mat), Tab w v a → Rect a k k → Calls Try.prog 23 #[v] w (DetPost (wr (detE k (ent a))) w)
  | 0, _ => det23_zero
  | k + 1, hk => fun w v a h ha => det23_step k (k + 1) rfl (by omega) (det23_any k (by omega)) w v a h ha
end Go.Proofs
namespace Go.Proofs
open Go.RowKit Go.Shelf Go.Proofs.Sm
theorem drawn_valid (l : List Int) (rows n : Nat) : Valid n (drawnE l rows n) := by
  refine ⟨fun x hx => ?_, fun i j => ?_⟩
  · obtain ⟨i, -, rfl⟩ := List.mem_map.1 hx
    exact drRow_length l n i
  · unfold ent
    rcases Nat.lt_or_ge i rows with hi | hi
    · have : (drawnE l rows n).getD i [] = drRow l n i := by simp [drawnE, List.getD_eq_getElem?_getD, hi]
      rw [this]
      rcases Nat.lt_or_ge j n with hj | hj
      · have h2 : (drRow l n i).getD j 0 = dr l (i * n + j) := by simp [drRow, List.getD_eq_getElem?_getD, hj]
        rw [h2]
        have := dr_bd l (i * n + j)
        omega
      · rw [List.getD_eq_getElem?_getD, List.getElem?_eq_none (by rw [drRow_length]; exact hj)]; simp
    · rw [List.getD_eq_getElem?_getD (l := drawnE l rows n), List.getElem?_eq_none (by rw [drawnE_length]; exact hi)]; simp
theorem drawn_rect (l : List Int) (rows n : Nat) : Rect (drawnE l rows n) rows n := ⟨drawnE_length l rows n, (drawn_valid l rows n).row⟩
theorem drawn_fits (l : List Int) (rows n : Nat) : ∀ y ∈ drawnE l rows n, Fits y := fits_mat fun i j => by
  have := (drawn_valid l rows n).bd i j
  omega
theorem rowsE_ok {n : Int} : ∀ {l : List (List Int)}, (∀ x ∈ l, (x.length : Int) = n ∧ ∀ z ∈ x, -1000000 ≤ z ∧ z ≤ 1000000) → rowsE n l = 0
  | [], _ => rfl
  | y :: l, h => by
    unfold rowsE
    obtain ⟨h1, h2⟩ := h y (by simp)
    rw [if_neg (by omega)]
    have h3 : (y.any fun z => !entryB z) = false := by
      rw [List.any_eq_false]
      intro z hz
      have := h2 z hz
      unfold entryB
      simp; omega
    rw [h3, if_neg (by simp)]
    exact rowsE_ok fun x hx => h x (by simp [hx])
theorem check_ok {n : Nat} {l : Mat} (h1 : 1 ≤ n) (h2 : n ≤ 16) (hl : l.length ≤ 100) (hv : Valid n l) : checkE n l = 0 := by
  unfold checkE
  rw [if_neg (by omega), if_neg (by omega)]
  refine rowsE_ok fun x hx => ⟨by rw [hv.row x hx], fun z hz => ?_⟩
  obtain ⟨i, hi, rfl⟩ := List.getElem_of_mem hx
  obtain ⟨j, hj, rfl⟩ := List.getElem_of_mem hz
  have := hv.bd i j
  unfold ent at this
  rw [List.getD_eq_getElem?_getD (l := l), List.getElem?_eq_getElem hi, Option.getD_some, List.getD_eq_getElem?_getD, List.getElem?_eq_getElem hj, Option.getD_some] at this
  exact this
end Go.Proofs
namespace Go.Proofs
open Go.RowKit Go.Shelf Go.Proofs.Sm
def YesPost (w : World) (e : Ending) (w' : World) : Prop := e = .returned (.bool true) ∧ Below w.heap.size w w'
theorem drawn_at {w W : World} {A : Option Addr} {c : Nat} {l : List Int} (rows n : Nat) (hI : IntsAt w (.slice A l.length c) l) (hW : Below w.heap.size w W) (hn : 1 ≤ n) (hn2 : n ≤ 4) (hr : rows ≤ 4) : Calls Try.prog 20 #[.pointer (some ⟨W.heap.size, 0, none⟩), .int .i64 (rows : Int), .int .i64 (n : Int)] (W.alloc (.cells #[.slice A l.length c, .int .i64 0] 39)) fun e w' => ∃ A' c', e = .returned (.slice A' rows c') ∧ Hid (Tab w' (.slice A' rows c') (drawnE l rows n) ∧ Below w.heap.size w w') :=
  (drawn20_any W.heap.size rows n (W.alloc (.cells #[.slice A l.length c, .int .i64 0] 39)) A c l (TkM.start (kept_ints.below hI hW)) hn (by omega) (by omega)).mono fun e w' ⟨A', c', bl, cs, he, hM, _, hg⟩ => ⟨A', c', he, Lib.hid ⟨hM.tab (drawn_fits l rows n), hW.trans ((((Below.refl W.heap.size W).alloc (Nat.le_refl _) _).trans (below_gr hg (by simp))).mono hW.size)⟩⟩
end Go.Proofs
namespace Go.Proofs
open Go.RowKit Go.Shelf Go.Proofs.Sm
theorem det_at {w0 : World} {v : Value} {a : Mat} {r : Nat} (ha : Tab w0 v a) (hr : Rect a r r) (hr4 : r ≤ 4) (W : World) (hW : Below w0.heap.size w0 W) :
    Calls Try.prog 23 #[v] W fun e w' => e = .returned (.int .i64 (wr (detE r (ent a)))) ∧ Hid (Below w0.heap.size w0 w') :=
  (det23_any r (by omega) W v a (kept_tab.below ha hW) hr).mono fun e w' ⟨he, hq⟩ => ⟨he, Lib.hid (hW.trans (hq.mono hW.size))⟩
end Go.Proofs
namespace Go.Proofs
open Go.RowKit Go.Shelf Go.Proofs.Sm
theorem size62_any (w : World) (x : Int) (hx : -16 ≤ x ∧ x ≤ 16) : Calls Try.prog 62 #[.int .i64 x] w fun e w' => e = .returned (.int .u64 (x.natAbs : Int)) ∧ w = w' := by
  by_cases h : x < 0
  · have hw1 : IntKind.u64.wrap x = x + 18446744073709551616 := by unfold IntKind.wrap; simp [IntKind.signed, IntKind.bits]; omega
    have hw2 : IntKind.u64.wrap (-(x + 18446744073709551616)) = (x.natAbs : Int) := by unfold IntKind.wrap; simp [IntKind.signed, IntKind.bits]; omega
    go_enter Try.func62, Try.ntmps62
    go_wp2_with fail
    go_ret
    exact ⟨rfl, rfl⟩
  · have hx2 : (x.natAbs : Int) = x := by omega
    have hw1 : IntKind.u64.wrap x = x := by unfold IntKind.wrap; simp [IntKind.signed, IntKind.bits]; omega
    go_enter Try.func62, Try.ntmps62
    go_wp2_with fail
    go_ret
    exact ⟨rfl, rfl⟩
theorem nan78_any (w : World) (x : Int) : Calls Try.prog 78 #[.int .i64 x] w fun e w' => e = .returned (.bool false) ∧ w = w' := by
  have h : (x != x) = false := by simp
  go_enter Try.func78, Try.ntmps78
  go_wp2_with fail
  go_ret
  exact ⟨rfl, rfl⟩
theorem compare63_zero (w : World) (x : Int) : Calls Try.prog 63 #[.int .i64 x, .int .i64 0] w fun e w' => e = .returned (.int .i64 (if x < 0 then -1 else if 0 < x then 1 else 0)) ∧ w = w' := by
  have HN := Lib.hid (nan78_any)
  rcases Int.lt_trichotomy x 0 with h | h | h
  · rw [if_pos h]
    go_enter Try.func63, Try.ntmps63
    go_wp2_with (go_at_call 78; (refine (HN.out _ _).mono ?_); rintro e w' ⟨rfl, rfl⟩)
    go_ret
    exact ⟨rfl, rfl⟩
  · subst h
    go_enter Try.func63, Try.ntmps63
    go_wp2_with (go_at_call 78; (refine (HN.out _ _).mono ?_); rintro e w' ⟨rfl, rfl⟩)
    go_ret
    exact ⟨rfl, rfl⟩
  · rw [if_neg (by omega), if_pos h]
    have h2 : decide (x < 0) = false := decide_eq_false (by omega)
    go_enter Try.func63, Try.ntmps63
    go_wp2_with (go_at_call 78; (refine (HN.out _ _).mono ?_); rintro e w' ⟨rfl, rfl⟩)
    go_ret
    exact ⟨rfl, rfl⟩
/-- a word of n generators -/
def WordOk (n : Nat) (xs : List Int) : Prop := xs.length ≤ 4000 ∧ ∀ c ∈ xs, c ≠ 0 ∧ -(n : Int) ≤ c ∧ c ≤ n
set_option maxRecDepth 100000 in
theorem check61_ok (w : World) (v : Value) (xs : List Int) (n : Nat) (h : IntsAt w v xs) (hn : 1 ≤ n) (hn2 : n ≤ 16) (hk : WordOk n xs) : Calls Try.prog 61 #[v, .int .i64 (n : Int)] w fun e w' => e = .returned (.int .i64 0) ∧ ∃ q, w' = w.drewN q := by
  obtain ⟨A, c, rfl, h1, h2, h3⟩ := h.open_
  have HC := Lib.hid h3
  have HK : Hid (∀ k, k < xs.length → xs.getD k 0 ≠ 0 ∧ -(n : Int) ≤ xs.getD k 0 ∧ xs.getD k 0 ≤ n) := Lib.hid fun k hk' => hk.2 _ (by rw [List.getD_eq_getElem?_getD, List.getElem?_eq_getElem hk']; exact List.getElem_mem hk')
  have hl := hk.1
  have hli : (xs.length : Int) ≤ 4000 := by omega
  have hni : (1 : Int) ≤ (n : Int) := by omega
  have hni2 : (n : Int) ≤ 16 := by omega
  clear h h3 hk
  generalize xs.length = L at *
  go_enter Try.func61, Try.ntmps61
  go_wp2_with fail
  go_loopw [18] (fun z wr => ∃ k : Nat, k ≤ L ∧ z = .int .i64 k ∧ ∃ q, wr = w.drewN q) (fun z _ => L - (intOf z).toNat)
  case atStart => exact ⟨0, by omega, rfl, 0, rfl⟩
  case round =>
    obtain ⟨k, hk, rfl, q, rfl⟩ := hrel
    have hk0 : (0 : Int) ≤ (k : Int) := Int.natCast_nonneg _
    by_cases hkl : k < L
    · have hkl' : (k : Int) < (L : Int) := by omega
      obtain ⟨b, o, rfl, hcc⟩ := HC.out (by omega)
      have hx := hcc k hkl
      obtain ⟨e1, e2, e3⟩ := HK.out k hkl
      clear hcc
      generalize xs.getD k 0 = z at *
      have f1 : (z == 0) = false := by rw [beq_eq_false_iff_ne]; exact e1
      have f2 : decide ((n : Int) < z) = false := decide_eq_false (by omega)
      have f3 : decide (z < -(n : Int)) = false := decide_eq_false (by omega)
      clear e1
      go_wp2_with fail
      go_roundw
      case rel => exact ⟨k + 1, by omega, by go_num, (by first | exact ⟨_, rfl⟩ | exact ex_drewN)⟩
      case measure => simp [intOf]; omega
    · obtain rfl : k = L := by omega
      go_wp2_with fail
      go_ret
      exact ⟨rfl, _, rfl⟩
end Go.Proofs
namespace Go.Proofs
open Go.RowKit Go.Shelf Go.Proofs.Sm
/-- how often a letter of the generator k stands in a word, inverses counted off -/
def sumAt (xs : List Int) (k : Nat) : Int := (xs.count ((k : Int) + 1) : Int) - (xs.count (-((k : Int) + 1)) : Int)
def sumsE (n : Nat) (xs : List Int) : List Int := (List.range n).map (sumAt xs)
theorem sumsE_length (n : Nat) (xs : List Int) : (sumsE n xs).length = n := by simp [sumsE]
theorem sumsE_getD {n k : Nat} (xs : List Int) (hk : k < n) : (sumsE n xs).getD k 0 = sumAt xs k := by simp [sumsE, List.getD_eq_getElem?_getD, hk]
theorem sumsE_nil (n : Nat) : sumsE n [] = List.replicate n 0 := by
  apply List.ext_getElem (by simp [sumsE])
  intro i h1 h2
  simp [sumsE, sumAt]
def sgnI (c : Int) : Int := if c < 0 then -1 else if 0 < c then 1 else 0
theorem sumAt_snoc (xs : List Int) {c : Int} (_hc : c ≠ 0) (k : Nat) : sumAt (xs ++ [c]) k = if k + 1 = c.natAbs then sumAt xs k + sgnI c else sumAt xs k := by
  unfold sumAt sgnI
  rw [List.count_append, List.count_append, List.count_singleton, List.count_singleton]
  simp only [beq_iff_eq]
  by_cases h : k + 1 = c.natAbs
  · rw [if_pos h]
    by_cases h0 : c < 0
    · rw [if_pos h0, if_neg (by omega), if_pos (by omega)]; omega
    · rw [if_neg h0, if_pos (by omega), if_neg (by omega), if_pos (by omega)]; omega
  · rw [if_neg h, if_neg (by omega), if_neg (by omega)]; omega
theorem sumsE_snoc {n : Nat} (xs : List Int) {c : Int} (hc : c ≠ 0) (_hn : c.natAbs ≤ n) : sumsE n (xs ++ [c]) = (sumsE n xs).set (c.natAbs - 1) (sumAt xs (c.natAbs - 1) + sgnI c) := by
  apply List.ext_getElem (by simp [sumsE])
  intro i h1 h2
  rw [List.getElem_set]
  simp only [sumsE, List.getElem_map, List.getElem_range]
  rw [sumAt_snoc xs hc]
  by_cases e : c.natAbs - 1 = i
  · subst e
    rw [if_pos (by omega), if_pos rfl]
  · rw [if_neg (by omega), if_neg e]
theorem sumAt_bd (xs : List Int) (k : Nat) : -(xs.length : Int) ≤ sumAt xs k ∧ sumAt xs k ≤ xs.length := by
  unfold sumAt
  have h1 := List.count_le_length (a := (k : Int) + 1) (l := xs)
  have h2 := List.count_le_length (a := -((k : Int) + 1)) (l := xs)
  omega
theorem take_snoc (xs : List Int) {j : Nat} (h : j < xs.length) : xs.take (j + 1) = xs.take j ++ [xs.getD j 0] := by
  rw [List.take_succ_eq_append_getElem h, List.getD_eq_getElem?_getD, List.getElem?_eq_getElem h]; rfl
def SumsPost (n : Nat) (xs : List Int) (w : World) (e : Ending) (w' : World) : Prop := ∃ g, e = .returned (.tuple #[.slice (some ⟨g, 0, none⟩) n n, .int .i64 0]) ∧ XsAt w' g (sumsE n xs) ∧ w.heap.size ≤ g ∧ Below w.heap.size w w'
set_option maxRecDepth 100000 in
set_option maxHeartbeats 2000000 in
theorem sums44_ok (w : World) (v : Value) (xs : List Int) (n : Nat) (h : IntsAt w v xs) (hn : 1 ≤ n) (hn2 : n ≤ 16) (hk : WordOk n xs) : Calls Try.prog 44 #[v, .int .i64 (n : Int)] w (SumsPost n xs w) := by
  have HCK := Lib.hid (check61_ok w v xs n h hn hn2 hk)
  obtain ⟨A, c, rfl, h1, h2, h3⟩ := h.open_
  have HC := Lib.hid h3
  have HK : Hid (∀ k, k < xs.length → xs.getD k 0 ≠ 0 ∧ -(n : Int) ≤ xs.getD k 0 ∧ xs.getD k 0 ≤ n) := Lib.hid fun k hk' => hk.2 _ (by rw [List.getD_eq_getElem?_getD, List.getElem?_eq_getElem hk']; exact List.getElem_mem hk')
  have hl := hk.1
  have hli : (xs.length : Int) ≤ 4000 := by omega
  have hni : (1 : Int) ≤ (n : Int) := by omega
  have hni2 : (n : Int) ≤ 16 := by omega
  obtain ⟨L, hL⟩ : ∃ L, L = xs.length := ⟨_, rfl⟩
  rw [← hL] at hl hli h1 HCK HC HK ⊢
  have HL := Lib.hid hL
  have HSZ := Lib.hid fun c => size62_any (x := c)
  have HCMP := Lib.hid fun c => compare63_zero (x := c)
  clear h h3 hk hL
  go_enter Try.func44, Try.ntmps44
  have HMK : Hid (∀ q, ∃ w1, (Instr.makeSlice 25 (.int .i64 (n : Int)) (.int .i64 (n : Int))).run Try.prog (w.drewN q) = .ok (.slice (some ⟨w.heap.size, 0, none⟩) n n) w1 ∧ Hid (XsAt w1 w.heap.size (sumsE n (xs.take 0)) ∧ Below w.heap.size w w1)) := Lib.hid fun q => by
    obtain ⟨w1, hm1, hx1, hb1, -⟩ := make25_any (w.drewN q) n (by omega)
    exact ⟨w1, hm1, Lib.hid ⟨by rw [List.take_zero, sumsE_nil]; exact hx1, (below_drewN (Below.refl _ _) q).trans hb1⟩⟩
  go_wp2_with (first
    | (go_at_call 61; (refine HCK.out.mono ?_); rintro e w1 ⟨rfl, q1, rfl⟩; obtain ⟨w2, hm2, HX2⟩ := HMK.out q1; have HM2 := Lib.hid hm2; clear hm2)
    | ((with_reducible refine wpList_sel 17 ?_); refine wpList_val rfl (r_make 25 (.tmp 16) (.tmp 16) rfl rfl rfl HM2.out) ?_))
  generalize hg : w.heap.size = g at *
  go_loopw [20] (fun z wr => ∃ k : Nat, k ≤ L ∧ z = .int .i64 k ∧ Hid (XsAt wr g (sumsE n (xs.take k)) ∧ Below g w wr)) (fun z _ => L - (intOf z).toNat)
  case atStart => exact ⟨0, by omega, rfl, HX2⟩
  case round =>
    obtain ⟨k, hk, rfl, HQ⟩ := hrel
    have hk0 : (0 : Int) ≤ (k : Int) := Int.natCast_nonneg _
    by_cases hkl : k < L
    · have hkl' : (k : Int) < (L : Int) := by omega
      obtain ⟨b, o, rfl, hcc⟩ := HC.out (by omega)
      have hx := hcc k hkl
      obtain ⟨e1, e2, e3⟩ := HK.out k hkl
      have hx' := (HQ.out.2.cell (p := ⟨b, o + k, none⟩) (by rw [← hg]; exact World.block_lt_of_cell? w _ hx)).trans hx
      have hsn := sumsE_snoc (n := n) (xs.take k) (c := xs.getD k 0) e1 (by omega)
      rw [← take_snoc xs (by rw [← HL.out]; exact hkl)] at hsn
      have hbd := sumAt_bd (xs.take k) ((xs.getD k 0).natAbs - 1)
      have hlt : (xs.take k).length ≤ 4000 := by rw [List.length_take]; omega
      obtain ⟨a, ha⟩ : ∃ a, a = (xs.getD k 0).natAbs - 1 := ⟨_, rfl⟩
      have haz : (xs.getD k 0).natAbs = a + 1 := by omega
      rw [← ha] at hsn hbd
      have han : a < n := by omega
      have hcell := HQ.out.1.cell (k := a) (by rw [sumsE_length]; exact han)
      rw [sumsE_getD _ han] at hcell
      have hfz := HQ.out.1.frozen a
      have hset := HQ.out.1.set (k := a) (by rw [sumsE_length]; exact han) (sumAt (xs.take k) a + sgnI (xs.getD k 0))
      rw [← hsn] at hset
      have HSET := Lib.hid (And.intro hset (HQ.out.2.setCell (p := ⟨g, a, none⟩) (Nat.le_refl _) (.int .i64 (sumAt (xs.take k) a + sgnI (xs.getD k 0)))))
      have H62 : Hid (∀ W, Calls Try.prog 62 #[.int .i64 (xs.getD k 0)] W fun e w' => e = .returned (.int .u64 ((a : Int) + 1)) ∧ W = w') := Lib.hid fun W => by
        have h := HSZ.out (xs.getD k 0) W (by omega)
        rw [haz] at h
        exact h
      have H63 : Hid (∀ W, Calls Try.prog 63 #[.int .i64 (xs.getD k 0), .int .i64 0] W fun e w' => e = .returned (.int .i64 (sgnI (xs.getD k 0))) ∧ W = w') := Lib.hid fun W => HCMP.out (xs.getD k 0) W
      have hsb : -1 ≤ sgnI (xs.getD k 0) ∧ sgnI (xs.getD k 0) ≤ 1 := by unfold sgnI; split <;> (try split) <;> omega
      have hwa : IntKind.u64.wrap ((a : Int) + 1 - 1) = (a : Int) := by unfold IntKind.wrap; simp [IntKind.signed, IntKind.bits]; omega
      have hwa2 : IntKind.u64.wrap (a : Int) = (a : Int) := by unfold IntKind.wrap; simp [IntKind.signed, IntKind.bits]; omega
      have ha0 : (0 : Int) ≤ (a : Int) := Int.natCast_nonneg _
      have hai : (a : Int) < (n : Int) := by omega
      clear hset hsn hx hcc haz ha e1 e2 e3 HK HSZ HCMP
      generalize sgnI (xs.getD k 0) = sg at *
      generalize sumAt (xs.take k) a = sm at *
      generalize xs.getD k 0 = z at *
      have hws : IntKind.i64.wrap (sm + sg) = sm + sg := IntWalk.i64_in _ (by omega)
      have hws2 : wrap64 (sm + sg) = sm + sg := by rw [wr_wrap64, wr_in (by omega)]
      clear hbd hsb hlt
      go_wp2_with fail
      go_region_law (first
        | (go_simp; go_at_call 62; (refine (H62.out _).mono ?_); rintro e w9 ⟨rfl, rfl⟩)
        | (go_simp; go_at_call 63; (refine (H63.out _).mono ?_); rintro e w9 ⟨rfl, rfl⟩))
      all_goals
        go_wp2_with fail
        go_roundw
        case rel => exact ⟨k + 1, by omega, by go_num, Lib.hid (by first | exact HSET.out | exact ⟨HSET.out.1.keep rfl, below_drewN HSET.out.2 1⟩)⟩
        case measure => simp [intOf]; omega
    · obtain rfl : k = L := by omega
      have HE : Hid (XsAt wr g (sumsE n xs) ∧ Below g w wr) := Lib.hid (by have := HQ.out; rw [HL.out, List.take_length] at this; exact this)
      go_wp2_with fail
      go_ret2
      exact ⟨g, rfl, HE.out.1, by rw [hg]; exact Nat.le_refl _, by rw [hg]; exact HE.out.2⟩
end Go.Proofs
