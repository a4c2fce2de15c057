/- The walk of RewriteKnown; plain; the reference's Images; The program's Images; The walk of CosetKnown; Words that numbers select: Turn, Letter, WordOf; WordsOf; power; the words of a law; Words of the call's own, by blocks; results of a presentation and a number. -/
import Derived.Test.YtmpnengjboabcaaTpCS12
import Derived.Test.YtmpnengjboabcaaTpCS7
import Derived.Test.YtmpnengjboabcaaTpCS10
import Derived.Test.YtmpnengjboabcaaTpCS15
import Derived.Test.YtmpnengjboabcaaTpCS17
import Derived.Test.YtmpnengjboabcaaTpCS8
import Derived.Test.YtmpnengjboabcaaTpCS11
namespace Go.Proofs
open Go.RowKit Go.Shelf Go.Proofs.Ct Go.Maps
theorem ints_blk {w : World} {b : Nat} {xs : List Int} (h : w.heap[b]? = some (.cells (ints xs).toArray 3 (0, 0))) (hf : Fits xs) {n : Nat} (hn : xs.length = n) (hm : n ≤ 1000) : IntsAt w (.slice (some ⟨b, 0, none⟩) n n) xs := by
  subst hn
  have hl : xs.length ≤ 9223372036854775807 := by omega
  refine ⟨⟨_, xs.length, xs.length, rfl, by simp [ints], Nat.le_refl _, by simpa [maxLen] using hl, fun _ => ⟨b, 0, rfl, fun j u hu => ?_⟩⟩, hf⟩
  rw [cell_of_row _ _ _ _ _ _ h, Nat.zero_add]
  simpa using hu
/-- rows in a block -/
theorem tab_blk {w : World} {b : Nat} {us : List Value} {xs : List (List Int)} {e : TypeId} (hb : w.heap[b]? = some (.cells us.toArray e (0, 0))) {n : Nat} (hn : us.length = n) (hl : us.length = xs.length) (hm : us.length ≤ 1000) (h : ∀ i, i < xs.length → IntsAt w (us.getD i undef) (xs.getD i [])) :
    Tab w (.slice (some ⟨b, 0, none⟩) n n) xs := by
  subst hn
  have hl9 : us.length ≤ 9223372036854775807 := by omega
  refine ⟨us, ⟨_, us.length, us.length, rfl, rfl, Nat.le_refl _, by simpa [maxLen] using hl9, fun _ => ⟨b, 0, rfl, fun j u hu => ?_⟩⟩, hl, fun i hi => ?_⟩
  · rw [cell_of_row _ _ _ _ _ _ hb, Nat.zero_add]
    simpa using hu
  · have hi' : i < us.length := by omega
    refine ⟨us.getD i undef, ?_, h i hi⟩
    simp [List.getD_eq_getElem?_getD, hi']
theorem fits_lit {xs : List Int} (h : (xs.all fun x => decide (-1000 ≤ x) && decide (x ≤ 1000)) = true) : Fits xs := fun x hx => by
  have := List.all_eq_true.1 h x hx
  simp at this
  omega
theorem build40s (g : Int) (A : Option Addr) (n c : Nat) (w : World) : (Instr.build 40 #[(0, .int .i64 g), (1, .slice A n c)]).run Try.prog w = .ok (.agg #[.int .i64 g, .slice A n c]) w := by kernel_rfl
section
variable {o : Oper} {a : Act} {w w' : World} {n : Nat} {v : Value}
theorem r_build40s (x y : Operand) (g : Int) (A : Option Addr) (m c : Nat) (ho : o.op = .build 40 #[(0, x), (1, y)]) (hx : a.eval x = .int .i64 g) (hy : a.eval y = .slice A m c) : (execOp a.eval o).run Try.prog w = .ok (.value (.agg #[.int .i64 g, .slice A m c])) w := by
  have hb := build40s g A m c w
  unfold execOp
  simp only [ho, List.map_toArray, List.map_cons, List.map_nil, hx, hy, Sem.run_bind, hb, Result.andThen_ok]
  rfl
end
/-- what a slot of the drawn region holds -/
inductive SP where
  | eq (v : Value) | ints (l : List Int) | tab (l : List (List Int)) | pres (g : Int) (l : List (List Int)) | any
def SP.holds : SP → Value → World → Prop
  | .eq u, v, _ => v = u
  | .ints l, v, w => IntsAt w v l
  | .tab l, v, w => ∃ A c, v = .slice A l.length c ∧ Tab w v l
  | .pres g l, v, w => ∃ A c, v = .agg #[.int .i64 g, .slice A l.length c] ∧ Tab w (.slice A l.length c) l
  | .any, _, _ => True
theorem SP.keep {s : SP} {v : Value} {w w' : World} (h : Below w.heap.size w w') : s.holds v w → s.holds v w' := by
  cases s with
  | eq u => exact id
  | ints l => exact fun k => k.below h
  | tab l => exact fun ⟨A, c, e, k⟩ => ⟨A, c, e, kept_tab.below k h⟩
  | pres g l => exact fun ⟨A, c, e, k⟩ => ⟨A, c, e, kept_tab.below k h⟩
  | any => exact id
section
variable {o : Oper} {a : Act} {w w' : World} {n : Nat} {v : Value}
end
end Go.Proofs
namespace Go.Proofs
open Go.RowKit Go.Shelf Go.Proofs.Ct Go.Maps
theorem take_snoc {α : Type} {d : α} {l : List α} {k : Nat} (h : k < l.length) : l.take (k + 1) = l.take k ++ [l.getD k d] := by
  rw [List.take_add_one, List.getD_eq_getElem?_getD, List.getElem?_eq_getElem h]; rfl
end Go.Proofs
namespace Go.Proofs
open Go.RowKit Go.Shelf Go.Proofs.Ct Go.Maps
/-- a list of g lists of the call's own, each in its own block -/
structure ImgS (w0 wr : World) (B g : Nat) (f : Nat → List Int) (vs : Nat → Value) : Prop where
  below : Below w0.heap.size w0 wr
  ge : w0.heap.size ≤ B
  blk : ∃ C, wr.heap[B]? = some (.cells C 24 (0, 0)) ∧ ∀ c, c < g → C[c]? = some (vs c)
  row : ∀ c, c < g → OwnI w0.heap.size wr (vs c) (f c)
  ap : ∀ c d, c < g → d < g → c ≠ d → ∀ r, (vs c).ownBlock = some r → (vs d).ownBlock ≠ some r
section
variable {w0 wr : World} {B g : Nat} {f : Nat → List Int} {vs : Nat → Value}
theorem ImgS.lt (h : ImgS w0 wr B g f vs) : B < wr.heap.size := by obtain ⟨C, hC, -⟩ := h.blk; exact (Array.getElem?_eq_some_iff.1 hC).1
theorem ImgS.own (h : ImgS w0 wr B g f vs) {c : Nat} (hc : c < g) : (vs c).ownBlock ≠ some B := fun e => by
  obtain ⟨-, C, hC⟩ := owns_block (h.row c hc) B e
  obtain ⟨C', hC', -⟩ := h.blk
  rw [hC'] at hC
  cases hC
theorem ImgS.below' {w' : World} (h : ImgS w0 wr B g f vs) (hb : Below wr.heap.size wr w') : ImgS w0 w' B g f vs := by
  obtain ⟨C, hC, h1⟩ := h.blk
  exact ⟨h.below.trans (hb.mono h.below.size), h.ge, ⟨C, (hb.block _ h.lt).trans hC, h1⟩, fun c hc => owns_below (h.row c hc) hb, h.ap⟩
theorem ImgS.cell (h : ImgS w0 wr B g f vs) {c : Nat} (hc : c < g) : wr.cell? ⟨B, c, none⟩ = some (vs c) := by
  obtain ⟨C, hC, h1⟩ := h.blk
  rw [cell_of_row _ _ _ _ _ _ hC]
  exact h1 c hc
theorem ImgS.frozen (h : ImgS w0 wr B g f vs) (c : Nat) : wr.frozen? ⟨B, c, none⟩ = false := by
  obtain ⟨C, hC, -⟩ := h.blk
  simp [World.frozen?, hC]
theorem ImgS.push (h : ImgS w0 wr B g f vs) {c : Nat} (hc : c < g) (z : Int) (hl : (f c).length ≤ 1000000) :
    ∃ A' c' w', (Builtin.append_ #[24, 24] 24 #[vs c, .slice (some ⟨wr.heap.size, 0, none⟩) 1 1]).run Try.prog (wr.alloc (.cells #[.int .i64 z] 3)) = .ok (.slice A' ((f c).length + 1) c') w' ∧
      w'.cell? ⟨B, c, none⟩ = some (vs c) ∧ w'.frozen? ⟨B, c, none⟩ = false ∧
      ImgS w0 (w'.setCell ⟨B, c, none⟩ (.slice A' ((f c).length + 1) c')) B g (fun d => if d = c then f c ++ [z] else f d) (fun d => if d = c then .slice A' ((f c).length + 1) c' else vs d) := by
  obtain ⟨A', c', w', hr, ho, hg, hw⟩ := push_int 24 24 Try.underlying24 wr w0.heap.size (vs c) (f c) (h.row c hc) z (by omega) h.below.size
  obtain ⟨C, hC, h1⟩ := h.blk
  have hCB : w'.heap[B]? = some (.cells C 24 (0, 0)) := (hg.block B h.lt (fun e => h.own hc e.symm)).trans hC
  have hrow : ∀ d, d < g → d ≠ c → OwnI w0.heap.size w' (vs d) (f d) := fun d hd hne => owns_keep (h.row d hd) fun r hr' => hg.block r (owns_lt (h.row d hd) hr') fun e => h.ap d c hd hc hne r hr' e.symm
  have hset : ∀ {u : Value} {x : List Int}, OwnI w0.heap.size w' u x → OwnI w0.heap.size (w'.setCell ⟨B, c, none⟩ (.slice A' ((f c).length + 1) c')) u x := fun {u x} hu => owns_keep hu fun r hr' => Below.heap_setCell w' ⟨B, c, none⟩ _ r fun e => by
    have e' : r = B := e
    obtain ⟨-, C', hC'⟩ := owns_block hu r hr'
    rw [e', hCB] at hC'
    cases hC'
  refine ⟨A', c', w', hr, by rw [cell_of_row _ _ _ _ _ _ hCB]; exact h1 c hc, by simp [World.frozen?, hCB], ?_, h.ge, ⟨C.setIfInBounds c (.slice A' ((f c).length + 1) c'), by simp [World.setCell, Array.getElem?_modify, hCB], fun d hd => ?_⟩, fun d hd => ?_, fun d1 d2 hd1 hd2 hne r hr1 => ?_⟩
  · exact (h.below.grown hg h.below.size (fun r hr' => (owns_block (h.row c hc) r hr').1)).setCell h.ge _
  · by_cases e : d = c
    · subst e
      have hsz : d < C.size := (Array.getElem?_eq_some_iff.1 (h1 d hd)).1
      simp [hsz]
    · skip
      rw [if_neg e, Array.getElem?_setIfInBounds_ne (fun e' => e e'.symm)]
      exact h1 d hd
  · by_cases e : d = c
    · rw [if_pos e, if_pos e]
      exact hset ho
    · rw [if_neg e, if_neg e]
      exact hset (hrow d hd e)
  · skip
    by_cases e1 : d1 = c
    · rw [if_pos e1] at hr1
      rw [if_neg (by omega)]
      rcases hw with hw | ⟨r', hw, hge⟩
      · rw [hw] at hr1
        exact h.ap c d2 hc hd2 (by omega) r hr1
      · rw [hw] at hr1
        cases hr1
        intro e
        have := owns_lt (h.row d2 hd2) e
        omega
    · rw [if_neg e1] at hr1
      by_cases e2 : d2 = c
      · rw [if_pos e2]
        rcases hw with hw | ⟨r', hw, hge⟩
        · rw [hw]
          exact h.ap d1 c hd1 hc (by omega) r hr1
        · rw [hw]
          intro e
          cases e
          have := owns_lt (h.row d1 hd1) hr1
          omega
      · rw [if_neg e2]
        exact h.ap d1 d2 hd1 hd2 hne r hr1
theorem ImgS.tab (h : ImgS w0 wr B g f vs) (hf : ∀ c, c < g → Fits (f c)) (hg : g ≤ 1000000) : Tab wr (.slice (some ⟨B, 0, none⟩) g g) ((List.range g).map f) := by
  refine ⟨(List.range g).map vs, ⟨_, g, g, rfl, by simp, Nat.le_refl _, by simp [maxLen]; omega, fun _ => ⟨B, 0, rfl, fun j v hj => ?_⟩⟩, by simp, fun i hi => ?_⟩
  · have hj' : j < g := by have := (List.getElem?_eq_some_iff.1 hj).1; simpa using this
    rw [Nat.zero_add, h.cell hj']
    simpa [hj'] using hj
  · have hi' : i < g := by simpa using hi
    refine ⟨vs i, by simp [hi'], ?_⟩
    have := OwnI.ints (h.row i hi') (hf i hi')
    simpa [List.getD_eq_getElem?_getD, hi'] using this
end
theorem ImgS.first {w0 w : World} (h : Below w0.heap.size w0 w) (g : Nat) : ImgS w0 (w.alloc (.cells (Array.replicate g (.slice none 0 0)) 24)) w.heap.size g (fun _ => []) (fun _ => .slice none 0 0) :=
  ⟨h.alloc h.size _, h.size, ⟨_, heap_alloc_new w _, fun c hc => by simp [hc]⟩, fun _ _ => World.ownsRow_nil _ _ _ _, fun _ _ _ _ _ _ hr => by cases hr⟩
end Go.Proofs
namespace Go.Proofs
open Go.RowKit Go.Shelf Go.Proofs.Ct Go.Maps
theorem bl3 {a b c : World} (h1 : Below a.heap.size a b) (h2 : Below b.heap.size b c) : Below a.heap.size a c := h1.trans (h2.mono h1.size)
end Go.Proofs
namespace Go.Proofs
open Go.RowKit Go.Shelf Go.Proofs.Ct Go.Maps
theorem turn59_any (w : World) (x : Int) (n : Nat) (hn : 1 ≤ n ∧ n ≤ 1000000) : Calls Try.prog 67 #[.int .i64 x, .int .i64 (n : Int)] w fun e w' => e = .returned (.int .i64 (x % (n : Int))) ∧ w' = w := by
  have hk0 : (0 : Int) < (n : Int) := by omega
  have hk1 : (n : Int) ≤ 1000000 := by omega
  have h3 : x.tmod n < n := Int.tmod_lt_of_pos _ hk0
  have h4 : -(n : Int) < x.tmod n := by
    have := Int.lt_tmod_of_pos x hk0
    omega
  have h5 : (x.tmod n + n).tmod n = x % n := by
    rw [Int.tmod_eq_emod_of_nonneg (by omega), Int.add_emod_right, Int.tmod_eq_emod]
    split <;> simp
  have H5 := Lib.hid h5
  clear h5
  generalize hm : x.tmod (n : Int) = m at *
  have hne : (n : Int) ≠ 0 := by omega
  have h6 : (m + n).tmod n < n := Int.tmod_lt_of_pos _ hk0
  have h7 : 0 ≤ (m + n).tmod (n : Int) := by rw [H5.out]; exact Int.emod_nonneg _ hne
  generalize hz : (m + (n : Int)).tmod (n : Int) = z at *
  go_enter Try.func67, Try.ntmps67
  go_wp2_with fail
  go_ret
  exact ⟨ret_int (by first | exact H5.out | (rw [← H5.out])), (by first | trivial | rfl)⟩
theorem letter61_any (w : World) (c : Nat) (hc : c ≤ 1000000) : Calls Try.prog 69 #[.int .i64 (c : Int)] w fun e w' => e = .returned (.int .i64 (letter c)) ∧ w' = w := by
  have h0 : (0 : Int) ≤ (c : Int) := Int.natCast_nonneg _
  have h1 : (c : Int) ≤ 1000000 := by omega
  have hm : (c : Int).tmod 2 = (c : Int) % 2 := Int.tmod_eq_emod_of_nonneg h0
  have hd : (c : Int).tdiv 2 = (c : Int) / 2 := Int.tdiv_eq_ediv_of_nonneg h0
  have HL : Hid (letter c = if (c : Int) % 2 = 0 then (c : Int) / 2 + 1 else -((c : Int) / 2 + 1)) := Lib.hid (by
    unfold letter
    split <;> split <;> omega)
  generalize hy : (c : Int) / 2 = y at *
  have hy0 : 0 ≤ y := by omega
  have hy1 : y ≤ 1000000 := by omega
  by_cases h : (c : Int) % 2 = 0
  · have d1 : ((c : Int) % 2 == 0) = true := by simpa using h
    rw [if_pos h] at HL
    generalize (c : Int) % 2 = m at *
    generalize letter c = l at *
    clear h
    go_enter Try.func69, Try.ntmps69
    go_wp2_with fail
    go_ret
    exact ⟨ret_int (by rw [HL.out]), (by first | trivial | rfl)⟩
  · have d1 : ((c : Int) % 2 == 0) = false := by simpa using h
    rw [if_neg h] at HL
    generalize (c : Int) % 2 = m at *
    generalize letter c = l at *
    clear h
    go_enter Try.func69, Try.ntmps69
    go_wp2_with fail
    go_ret
    exact ⟨ret_int (by rw [HL.out]), (by first | trivial | rfl)⟩
/-- the word that numbers select -/
def wordOf (g : Nat) (l : List Int) : List Int := l.map fun x => letter (x % ((2 * g : Nat) : Int)).toNat
theorem length_wordOf (g : Nat) (l : List Int) : (wordOf g l).length = l.length := by simp [wordOf]
theorem wordOf_take {g : Nat} {l : List Int} {k : Nat} (h : k < l.length) : wordOf g (l.take (k + 1)) = wordOf g (l.take k) ++ [letter (l.getD k 0 % ((2 * g : Nat) : Int)).toNat] := by
  rw [take_snoc (d := 0) h]
  simp [wordOf]
def WordPost (x : List Int) (w : World) (e : Ending) (w' : World) : Prop := ∃ A c, e = .returned (.slice A x.length c) ∧ OwnI w.heap.size w' (.slice A x.length c) x ∧ Below w.heap.size w w'
set_option maxRecDepth 100000 in
set_option maxHeartbeats 1000000 in
theorem wordOf39_any (w : World) (v : Value) (l : List Int) (g : Nat) (h : IntsAt w v l) (hg : 1 ≤ g ∧ g ≤ 1000) (hl : l.length ≤ 1000000) : Calls Try.prog 47 #[v, .int .i64 (g : Int)] w (WordPost (wordOf g l) w) := by
  obtain ⟨A, c, rfl, h1, h2, h3⟩ := h.open_
  have HL := Lib.hid h3
  have HF := Lib.hid h.2
  have h0 : OwnI w.heap.size w (.slice none 0 0) [] := World.ownsRow_nil _ _ _ _
  have H0 := Lib.hid h0
  have hg0 : (0 : Int) ≤ (g : Int) := Int.natCast_nonneg _
  have hg1 : (g : Int) ≤ 1000 := by omega
  have hgg : 2 * (g : Int) = ((2 * g : Nat) : Int) := by omega
  have HGG := Lib.hid hgg
  clear h h3 h0 hgg
  unfold WordPost
  go_enter Try.func47, Try.ntmps47
  go_wp2_with fail
  go_loopw [5, 6] (fun so i wr => ∃ k : Nat, i = .int .i64 k ∧ k ≤ l.length ∧ ∃ A c, so = .slice A k c ∧ Hid (OwnI w.heap.size wr so (wordOf g (l.take k))) ∧ Hid (Below w.heap.size w wr)) (fun _ i _ => l.length - (intOf i).toNat)
  case atStart => exact ⟨0, rfl, by omega, none, 0, rfl, H0, Lib.hid (Below.refl _ _)⟩
  case round =>
    clear H0
    obtain ⟨k, rfl, hk, A2, c2, rfl, HO, HB⟩ := hrel
    have hk0 : (0 : Int) ≤ (k : Int) := Int.natCast_nonneg _
    by_cases hlt : k < l.length
    · have hlt' : (k : Int) < (l.length : Int) := by omega
      obtain ⟨b, o, rfl, hcc⟩ := HL.out (by omega)
      have hu0 := hcc k hlt
      have hu := (HB.out.cell (p := ⟨b, o + k, none⟩) (World.block_lt_of_cell? w _ hu0)).trans hu0
      have HW := Lib.hid (wordOf_take (g := g) hlt)
      have hm0 := Int.emod_nonneg (l.getD k 0) (show ((2 * g : Nat) : Int) ≠ 0 by omega)
      have hm1 := Int.emod_lt_of_pos (l.getD k 0) (show (0 : Int) < ((2 * g : Nat) : Int) by omega)
      have HT : Hid (∀ W, Calls Try.prog 67 #[.int .i64 (l.getD k 0), .int .i64 (2 * (g : Int))] W fun e w' => e = .returned (.int .i64 ((l.getD k 0 % ((2 * g : Nat) : Int)).toNat : Nat)) ∧ w' = W) := Lib.hid fun W => by
        rw [HGG.out, Int.toNat_of_nonneg hm0]
        exact turn59_any W _ (2 * g) (by omega)
      have HLT : Hid (∀ W, Calls Try.prog 69 #[.int .i64 ((l.getD k 0 % ((2 * g : Nat) : Int)).toNat : Nat)] W fun e w' => e = .returned (.int .i64 (letter (l.getD k 0 % ((2 * g : Nat) : Int)).toNat)) ∧ w' = W) := Lib.hid fun W => letter61_any W _ (by omega)
      have hol : (wordOf g (l.take k)).length = k := by rw [length_wordOf, List.length_take]; omega
      obtain ⟨A', c', w', hr, ho, hgr, hw⟩ := push_int 25 25 Try.underlying25 wr w.heap.size _ _ HO.out (letter (l.getD k 0 % ((2 * g : Nat) : Int)).toNat) (by omega) HB.out.size
      rw [hol] at hr ho
      rw [← HW.out] at ho
      have HR := Lib.hid hr
      have HO' := Lib.hid ho
      have HB' : Hid (Below w.heap.size w w') := Lib.hid (HB.out.grown hgr HB.out.size fun r hr => (owns_block HO.out r hr).1)
      clear hr ho hw hcc hu0 hgr HW hol hm0 hm1
      generalize (l.getD k 0 % ((2 * g : Nat) : Int)).toNat = n at *
      generalize letter n = z at *
      generalize l.getD k 0 = x at *
      go_wp2_with (first
        | (go_at_call 67; (refine (HT.out _).mono ?_); rintro e w1 ⟨rfl, rfl⟩)
        | (go_at_call 69; (refine (HLT.out _).mono ?_); rintro e w1 ⟨rfl, rfl⟩)
        | ((with_reducible refine wpList_sel 23 ?_); refine wpList_val rfl (r_app (.tmp 13) (.tmp 22) 25 rfl rfl rfl HR.out) ?_))
      go_roundw
      case rel => exact ⟨k + 1, by go_num, by omega, _, _, rfl, HO', HB'⟩
      case measure => simp [intOf]; omega
    · obtain rfl : k = l.length := by omega
      have ho := HO.out
      rw [List.take_of_length_le (Nat.le_refl _)] at ho
      have HE : Hid (∃ A c, Ending.returned (.slice A2 l.length c2) = .returned (.slice A (wordOf g l).length c) ∧ OwnI w.heap.size wr (.slice A (wordOf g l).length c) (wordOf g l) ∧ Below w.heap.size w wr) := Lib.hid ⟨A2, c2, by rw [length_wordOf], by rw [length_wordOf]; exact ho, HB.out⟩
      clear ho
      go_wp2_with fail
      go_ret
      exact HE.out
end Go.Proofs
namespace Go.Proofs
open Go.RowKit Go.Shelf Go.Proofs.Ct Go.Maps
theorem under24e : Try.prog.underlying 24 = some (.slice (Try.prog.elem 24)) := by kernel_rfl
theorem r_slice_lo {o : Oper} {a : Act} {w : World} (x y : Operand) (A : Option Addr) (n c k : Nat) (ho : o.op = .slice 24 x (some y) none none) (hx : a.eval x = .slice A n c) (hy : a.eval y = .int .i64 (k : Int)) (hk : k ≤ n) : (execOp a.eval o).run Try.prog w = .ok (.value (sliced A k n c 1)) w := by
  have hu := under24e
  have hs : (sizeOf (Try.prog.elem 24)).run Try.prog w = .ok 1 w := by kernel_rfl
  unfold execOp
  simp only [ho, hx, hy, Option.map_none, Option.map_some, Sem.run_bind, run_sliceAt_slice w 24 _ _ _ _ hu, run_slice_l w 24 A n c hu .i64 (k : Int) (by omega) (by omega)]
  simp [hs]
theorem r_slice_lohi {o : Oper} {a : Act} {w : World} (x y z : Operand) (A : Option Addr) (n c k h : Nat) (ho : o.op = .slice 24 x (some y) (some z) none) (hx : a.eval x = .slice A n c) (hy : a.eval y = .int .i64 (k : Int)) (hz : a.eval z = .int .i64 (h : Int)) (hk : k ≤ h) (hc : h ≤ c) : (execOp a.eval o).run Try.prog w = .ok (.value (sliced A k h c 1)) w := by
  have hu := under24e
  have hs : (sizeOf (Try.prog.elem 24)).run Try.prog w = .ok 1 w := by kernel_rfl
  unfold execOp
  simp only [ho, hx, hy, hz, Option.map_none, Option.map_some, Sem.run_bind, run_sliceAt_slice w 24 _ _ _ _ hu, run_slice_lh w 24 A n c hu .i64 .i64 (k : Int) (h : Int) (by omega) (by omega) (by omega)]
  simp [hs]
theorem ints_sliced {w : World} {A : Option Addr} {c k h : Nat} {l : List Int} (hI : IntsAt w (.slice A l.length c) l) (hk : k ≤ h) (hh : h ≤ l.length) : ∃ A', sliced A k h c 1 = .slice A' (h - k) (c - k) ∧ IntsAt w (.slice A' (h - k) (c - k)) ((l.take h).drop k) := by
  obtain ⟨⟨A0, n, cap, e, h1, h2, h3, h4⟩, hf⟩ := hI
  obtain ⟨rfl, rfl, rfl⟩ := Value.slice.inj e
  refine ⟨_, rfl, ⟨_, _, _, rfl, by simp [ints]; omega, by omega, by omega, fun hp => ?_⟩, fun y hy => hf y (List.mem_of_mem_take (List.mem_of_mem_drop hy))⟩
  obtain ⟨b, off, rfl, hr⟩ := h4 (by omega)
  refine ⟨b, off + k, ?_, fun j v hj => ?_⟩
  · rw [if_neg (by omega), Nat.mul_one]
    exact congrArg some (Addr.add_mid b off k)
  · have hj' : (ints l)[k + j]? = some v := by
      simp only [ints, List.getElem?_map, List.getElem?_drop, List.getElem?_take] at hj ⊢
      split at hj
      · exact hj
      · simp at hj
    have := hr (k + j) v hj'
    rwa [show off + k + j = off + (k + j) by omega]
/-- the words that numbers select -/
def wordsTo (g most : Nat) : Nat → List Int → List W
  | 0, _ => []
  | _ + 1, [] => []
  | f + 1, x :: l => wordOf g (l.take (min (x % ((most + 1 : Nat) : Int)).toNat l.length)) :: wordsTo g most f (l.drop (min (x % ((most + 1 : Nat) : Int)).toNat l.length))
def wordsOf (g most : Nat) (l : List Int) : List W := wordsTo g most l.length l
theorem wordsTo_nil (g most f : Nat) : wordsTo g most f [] = [] := by cases f <;> rfl
theorem fits_wordOf {g : Nat} (hg : 1 ≤ g ∧ g ≤ 400) (l : List Int) : Fits (wordOf g l) := fun x hx => by
  obtain ⟨y, -, rfl⟩ := List.mem_map.1 hx
  have h1 := Int.emod_nonneg y (show ((2 * g : Nat) : Int) ≠ 0 by omega)
  have h2 := Int.emod_lt_of_pos y (show (0 : Int) < ((2 * g : Nat) : Int) by omega)
  have := letter_bd (c := (y % ((2 * g : Nat) : Int)).toNat) (by omega)
  omega
theorem r_min2 {o : Oper} {a : Act} {w : World} (x y : Operand) (i j z : Int) (ho : o.op = .call { callee := .builtin .min, args := #[x, y], argTypes := #[3, 3] }) (hx : a.eval x = .int .i64 i) (hy : a.eval y = .int .i64 j) (hz : z = min i j) : (execOp a.eval o).run Try.prog w = .ok (.value (.int .i64 z)) w := by
  have e : (if j < i then j else i) = z := by rw [hz]; split <;> omega
  unfold execOp
  simp only [ho, resolve, invoke, builtin, Sem.run_bind, Sem.run_pure, Result.andThen_ok, List.map_toArray, List.map_cons, List.map_nil, hx, hy, run_min_int2, e]
def WordsPost (x : List W) (w : World) (e : Ending) (w' : World) : Prop := (∃ A c, e = .returned (.slice A x.length c) ∧ TabB w.heap.size w' (.slice A x.length c) x) ∧ Below w.heap.size w w'
set_option maxRecDepth 100000 in
set_option maxHeartbeats 2000000 in
theorem wordsOf111_any (w : World) (v : Value) (l : List Int) (g most : Nat) (h : IntsAt w v l) (hg : 1 ≤ g ∧ g ≤ 400) (hm : most ≤ 1000) (hl : l.length ≤ 100000) : Calls Try.prog 135 #[v, .int .i64 (g : Int), .int .i64 (most : Int)] w (WordsPost (wordsOf g most l) w) := by
  obtain ⟨A, c, rfl, h1, h2, h3⟩ := h.open_
  have HI := Lib.hid h
  have hot := OutSt.nil 25 (Below.refl w.heap.size w)
  have HOT := Lib.hid hot
  have hg0 : (0 : Int) ≤ (g : Int) := Int.natCast_nonneg _
  have hm0 : (0 : Int) ≤ (most : Int) := Int.natCast_nonneg _
  have hm1 : (most : Int) ≤ 1000 := by omega
  have HW0 : Hid (wordsOf g most l = [] ++ wordsTo g most l.length l) := Lib.hid rfl
  unfold WordsPost
  generalize hX : wordsOf g most l = X at *
  have hln : l.length + 0 ≤ 100000 := by omega
  clear h h3 hot hX
  go_enter Try.func135, Try.ntmps135
  go_wp2_with fail
  go_loopw [0, 7] (fun sl so wr => ∃ (l2 : List Int) (f m : Nat), (∃ A c, sl = .slice A l2.length c ∧ c ≤ 9223372036854775807 ∧ Hid (IntsAt w (.slice A l2.length c) l2)) ∧ l2.length ≤ f ∧ l2.length + m ≤ 100000 ∧ ∃ F A c, so = .slice A m c ∧ ∃ rows, Hid (OutSt 25 F w wr (.slice A m c) rows) ∧ Hid (rows.length = m) ∧ Hid (X = rows ++ wordsTo g most f l2)) (fun sl _ _ => match sl with | .slice _ n _ => n | _ => 0)
  case atStart => exact ⟨l, l.length, 0, ⟨_, _, rfl, h2, HI⟩, Nat.le_refl _, hln, _, none, 0, rfl, [], HOT, Lib.hid rfl, HW0⟩
  case round =>
    clear HOT HI HW0
    obtain ⟨l2, f, m, ⟨A1, c1, rfl, hc1, HI⟩, hf, hlm, F, A2, c2, rfl, rows, HS, HRL, HX⟩ := hrel
    cases l2 with
    | nil =>
      have HE : Hid (rows = X) := Lib.hid (by have := HX.out; rw [wordsTo_nil, List.append_nil] at this; exact this.symm)
      have HT : Hid (∃ A c, Ending.returned (.slice A2 m c2) = .returned (.slice A X.length c) ∧ TabB w.heap.size wr (.slice A X.length c) X) := Lib.hid (by
        have h1 := HS.out.tabB
        rw [← HE.out, HRL.out]
        exact ⟨_, _, rfl, h1⟩)
      have HB := Lib.hid HS.out.below
      have hlen : (([] : List Int).length : Int) = 0 := rfl
      go_wp2_with fail
      go_ret
      exact ⟨HT.out, HB.out⟩
    | cons x l3 =>
      cases f with
      | zero => simp at hf
      | succ f =>
        have hTN : x % ((most + 1 : Nat) : Int) = ((x % ((most + 1 : Nat) : Int)).toNat : Int) := (Int.toNat_of_nonneg (Int.emod_nonneg x (by omega))).symm
        have hTB := Int.emod_lt_of_pos x (show (0 : Int) < ((most + 1 : Nat) : Int) by omega)
        have HTN : Hid (∀ W, Calls Try.prog 67 #[.int .i64 x, .int .i64 ((most : Int) + 1)] W fun e w' => e = .returned (.int .i64 ((x % ((most + 1 : Nat) : Int)).toNat : Int)) ∧ w' = W) := Lib.hid fun W => by
          rw [← hTN, show (most : Int) + 1 = ((most + 1 : Nat) : Int) by omega]
          exact turn59_any W x (most + 1) (by omega)
        have hstep : wordsTo g most (f + 1) (x :: l3) = wordOf g (l3.take (min (x % ((most + 1 : Nat) : Int)).toNat l3.length)) :: wordsTo g most f (l3.drop (min (x % ((most + 1 : Nat) : Int)).toNat l3.length)) := rfl
        have HX1 : Hid (X = rows ++ (wordOf g (l3.take (min (x % ((most + 1 : Nat) : Int)).toNat l3.length)) :: wordsTo g most f (l3.drop (min (x % ((most + 1 : Nat) : Int)).toNat l3.length)))) := Lib.hid (by rw [← hstep]; exact HX.out)
        generalize htz : (x % ((most + 1 : Nat) : Int)).toNat = tz at *
        have htm : tz ≤ most := by omega
        clear htz hTN hTB hstep HX
        have hll : (x :: l3).length = l3.length + 1 := rfl
        rw [hll] at HI hlm hf
        obtain ⟨n, hn⟩ : ∃ n, n = min tz l3.length := ⟨_, rfl⟩
        rw [← hn] at HX1
        have hnl : n ≤ l3.length := by omega
        have HN : Hid ((n : Int) = min (tz : Int) (l3.length : Int)) := Lib.hid (by omega)
        clear hn
        have hI : IntsAt w (.slice A1 (x :: l3).length c1) (x :: l3) := HI.out
        obtain ⟨A9, c9, e9, hq1, hq2, hq3⟩ := hI.open_
        obtain ⟨rfl, -, rfl⟩ := Value.slice.inj e9
        obtain ⟨b, o, rfl, hcc⟩ := hq3 (by simp)
        have hx0 := hcc 0 (by simp)
        have hxc := (HS.out.below.cell (p := ⟨b, o + 0, none⟩) (World.block_lt_of_cell? w _ hx0)).trans hx0
        have hxc' : wr.cell? ⟨b, o, none⟩ = some (.int .i64 x) := hxc
        obtain ⟨A3, hs1, hi1⟩ := ints_sliced (k := 1) (h := 1 + n) hI (by omega) (by simp; omega)
        obtain ⟨A4, hs2, hi2⟩ := ints_sliced (k := 1 + n) (h := l3.length + 1) hI (by omega) (by simp)
        have e1 : ((x :: l3).take (1 + n)).drop 1 = l3.take n := by rw [Nat.add_comm]; rfl
        have e2 : ((x :: l3).take (l3.length + 1)).drop (1 + n) = l3.drop n := by
          rw [show l3.length + 1 = (x :: l3).length from rfl, List.take_length, Nat.add_comm]; rfl
        have e3 : l3.length + 1 - (1 + n) = (l3.drop n).length := by rw [List.length_drop]; omega
        have e4 : 1 + n - 1 = n := by omega
        rw [e1] at hi1
        rw [e2, e3] at hi2
        rw [e4] at hi1 hs1
        rw [e3] at hs2
        have hcl : l3.length + 1 ≤ c1 := hq1
        have HI2 := Lib.hid hi2
        have HWO : Hid (Calls Try.prog 47 #[.slice A3 n (c1 - 1), .int .i64 (g : Int)] wr (WordPost (wordOf g (l3.take n)) wr)) := Lib.hid (wordOf39_any wr _ (l3.take n) g (kept_ints.below hi1 HS.out.below) (by omega) (by rw [List.length_take]; omega))
        have HFW := Lib.hid (fits_wordOf hg (l3.take n))
        have HL4 : Hid ((l3.drop n).length ≤ l3.length) := Lib.hid (by rw [List.length_drop]; omega)
        unfold WordPost at HWO
        generalize l3.take n = l5 at *
        generalize l3.drop n = l4 at *
        generalize wordOf g l5 = wd at *
        have hn0 : (0 : Int) ≤ (n : Int) := Int.natCast_nonneg _
        have hnI : (n : Int) ≤ (l3.length : Int) := by omega
        have hlI : (l3.length : Int) ≤ 100000 := by omega
        have htI : (tz : Int) ≤ 1000 := by omega
        have ht0 : (0 : Int) ≤ (tz : Int) := Int.natCast_nonneg _
        clear hcc hx0 hxc hi1 hi2 e1 e2 e4 hI e9 hq3 hll HI
        go_wp2_with (first
          | (go_at_call 67; (refine (HTN.out _).mono ?_); rintro e w1 ⟨rfl, rfl⟩)
          | ((with_reducible refine wpList_sel 21 ?_); refine wpList_val rfl (r_min2 (.tmp 17) (.tmp 20) _ _ (n : Int) rfl rfl rfl (by have := HN.out; omega)) ?_)
          | ((with_reducible refine wpList_sel 26 ?_); refine wpList_val rfl (r_slice_lohi (.tmp 23) (.const (.int .i64 1)) (.tmp 25) _ (l3.length + 1) c1 1 (1 + n) rfl rfl rfl rfl (by omega) (by omega)) ?_; rw [hs1])
          | (go_at_call 47; (refine HWO.out.mono ?_); rintro e w2 ⟨A5, c5, rfl, ho, hb⟩
             obtain ⟨A8, c8, w8, hr8, hS8⟩ := (HS.out.with_row hb ho).done (by decide) Try.underlying31 info25p HFW.out (by rw [HRL.out]; omega)
             rw [HRL.out] at hr8 hS8
             have HR8 := Lib.hid hr8
             have HS8 := Lib.hid hS8
             clear hr8 hS8 ho hb)
          | ((with_reducible refine wpList_sel 30 ?_); refine wpList_val rfl (r_app (.tmp 22) (.tmp 29) 31 rfl rfl rfl HR8.out) ?_)
          | ((with_reducible refine wpList_sel 34 ?_); refine wpList_val rfl (r_slice_lo (.tmp 31) (.tmp 33) _ (l3.length + 1) c1 (1 + n) rfl rfl rfl (by omega)) ?_; rw [show sliced (some ⟨b, o, none⟩) (1 + n) (l3.length + 1) c1 1 = _ from hs2]))
        go_roundw
        case rel => exact ⟨l4, f, m + 1, ⟨_, _, rfl, by omega, HI2⟩, by have := HL4.out; omega, by have := HL4.out; omega, _, _, _, rfl, rows ++ [wd], HS8, Lib.hid (by rw [List.length_append, HRL.out]; rfl), Lib.hid (by rw [HX1.out, List.append_assoc]; rfl)⟩
        case measure => have := HL4.out; simp; omega
end Go.Proofs
namespace Go.Proofs
open Go.RowKit Go.Shelf Go.Proofs.Ct Go.Maps
theorem tab_sliced {w : World} {A : Option Addr} {c h : Nat} {l : List W} (hT : Tab w (.slice A l.length c) l) (hh : h ≤ l.length) : ∃ A', sliced A 0 h c 1 = .slice A' h c ∧ Tab w (.slice A' h c) (l.take h) := by
  obtain ⟨vs, ⟨A0, n, cap, e, h1, h2, h3, h4⟩, hl, hr⟩ := hT
  obtain ⟨rfl, rfl, rfl⟩ := Value.slice.inj e
  refine ⟨_, rfl, vs.take h, ⟨_, h, c, rfl, by rw [List.length_take]; omega, by omega, h3, fun hp => ?_⟩, by rw [List.length_take, List.length_take]; omega, fun i hi => ?_⟩
  · obtain ⟨b, off, rfl, hr'⟩ := h4 (by omega)
    refine ⟨b, off, ?_, fun j v hj => hr' j v ?_⟩
    · rw [if_neg (by omega)]
      exact congrArg some (Addr.add_mid b off 0)
    · rw [List.getElem?_take] at hj
      split at hj
      · exact hj
      · cases hj
  · rw [List.length_take] at hi
    obtain ⟨u, hu, hx⟩ := hr i (by omega)
    refine ⟨u, by rw [List.getElem?_take, if_pos (by omega)]; exact hu, ?_⟩
    have : (l.take h).getD i [] = l.getD i [] := by
      rw [List.getD_eq_getElem?_getD, List.getElem?_take, if_pos (by omega), List.getD_eq_getElem?_getD]
    rw [this]
    exact hx
theorem tabB_sliced {base : Nat} {w : World} {A : Option Addr} {c h : Nat} {l : List W} (hT : TabB base w (.slice A l.length c) l) (hh : h ≤ l.length) : ∃ A', sliced A 0 h c 1 = .slice A' h c ∧ TabB base w (.slice A' h c) (l.take h) :=
  ⟨_, rfl, fun w' hw => by
    obtain ⟨A', e, ht⟩ := tab_sliced (hT w' hw) hh
    show Tab w' (sliced A 0 h c 1) _
    rw [e]
    exact ht⟩
/-- a word, so many times -/
def powW (x : List Int) : Nat → List Int
  | 0 => []
  | n + 1 => powW x n ++ x
theorem length_powW (x : List Int) : ∀ n, (powW x n).length = n * x.length
  | 0 => by simp [powW]
  | n + 1 => by rw [powW, List.length_append, length_powW x n, Nat.succ_mul]
set_option maxRecDepth 100000 in
set_option maxHeartbeats 1000000 in
theorem power112_any (w : World) (v : Value) (x : List Int) (n : Nat) (h : IntsAt w v x) (hn : n ≤ 1000) (hx : x.length ≤ 100) : Calls Try.prog 136 #[v, .int .i64 (n : Int)] w (WordPost (powW x n) w) := by
  obtain ⟨A, c, rfl, h1, h2, -⟩ := h.open_
  have HI := Lib.hid h
  have h0 : OwnI w.heap.size w (.slice none 0 0) [] := World.ownsRow_nil _ _ _ _
  have H0 : Hid (OwnI w.heap.size w (.slice none (powW x 0).length 0) (powW x 0)) := Lib.hid h0
  have hn0 : (0 : Int) ≤ (n : Int) := Int.natCast_nonneg _
  have hn1 : (n : Int) ≤ 1000 := by omega
  have HLN : Hid (∀ k, k ≤ n → (powW x k).length ≤ 100000) := Lib.hid fun k hk => by
    rw [length_powW]
    exact Nat.le_trans (Nat.mul_le_mul (Nat.le_trans hk hn) hx) (by omega)
  have HXL := Lib.hid hx
  clear h h0 hx
  unfold WordPost
  go_enter Try.func136, Try.ntmps136
  go_wp2_with fail
  go_loopw [5, 6] (fun so i wr => ∃ k : Nat, i = .int .i64 k ∧ k ≤ n ∧ ∃ m A c, so = .slice A m c ∧ Hid (m = (powW x k).length) ∧ Hid (OwnI w.heap.size wr (.slice A m c) (powW x k)) ∧ Hid (Below w.heap.size w wr)) (fun _ i _ => n - (intOf i).toNat)
  case atStart => exact ⟨0, rfl, by omega, 0, none, 0, rfl, Lib.hid rfl, H0, Lib.hid (Below.refl _ _)⟩
  case round =>
    clear H0
    obtain ⟨k, rfl, hk, m, A2, c2, rfl, HM, HO, HB⟩ := hrel
    have hk0 : (0 : Int) ≤ (k : Int) := Int.natCast_nonneg _
    by_cases hlt : k < n
    · have hlt' : (k : Int) < (n : Int) := by omega
      obtain ⟨A', c', w', hr, ho, hg, -⟩ := run_append_ints 25 25 Try.underlying25 wr w.heap.size _ _ (powW x k) x HO.out (kept_ints.below HI.out HB.out) (by have := HLN.out k hk; omega) (by have := HXL.out; omega) HB.out.size
      have HR := Lib.hid hr
      have HO' : Hid (OwnI w.heap.size w' (.slice A' (powW x k ++ x).length c') (powW x (k + 1))) := Lib.hid ho
      have HB' : Hid (Below w.heap.size w w') := Lib.hid (HB.out.grown hg HB.out.size fun r hr => (owns_block HO.out r hr).1)
      have HM' : Hid ((powW x k ++ x).length = (powW x (k + 1)).length) := Lib.hid rfl
      clear hr ho hg
      generalize (powW x k ++ x).length = m' at *
      go_wp2_with ((with_reducible refine wpList_sel 14 ?_); refine wpList_val rfl (r_app (.tmp 12) (.tmp 13) 25 rfl rfl rfl HR.out) ?_)
      go_roundw
      case rel => exact ⟨k + 1, by go_num, by omega, _, _, _, rfl, HM', HO', HB'⟩
      case measure => simp [intOf]; omega
    · obtain rfl : k = n := by omega
      have HE : Hid (∃ A c, Ending.returned (.slice A2 m c2) = .returned (.slice A (powW x k).length c) ∧ OwnI w.heap.size wr (.slice A (powW x k).length c) (powW x k) ∧ Below w.heap.size w wr) := Lib.hid ⟨A2, c2, by rw [← HM.out], by rw [← HM.out]; exact HO.out, HB.out⟩
      go_wp2_with fail
      go_ret
      exact HE.out
theorem r_slice_hi31 {o : Oper} {a : Act} {w : World} (x y : Operand) (A : Option Addr) (n c h : Nat) (ho : o.op = .slice 31 x none (some y) none) (hx : a.eval x = .slice A n c) (hy : a.eval y = .int .i64 (h : Int)) (hc : h ≤ c) : (execOp a.eval o).run Try.prog w = .ok (.value (sliced A 0 h c 1)) w := by
  have hu : Try.prog.underlying 31 = some (.slice (Try.prog.elem 31)) := by kernel_rfl
  have hs : (sizeOf (Try.prog.elem 31)).run Try.prog w = .ok 1 w := by kernel_rfl
  unfold execOp
  simp only [ho, hx, hy, Option.map_none, Option.map_some, Sem.run_bind, run_sliceAt_slice w 31 _ _ _ _ hu, run_slice_h w 31 A n c hu .i64 (h : Int) (by omega) (by omega)]
  simp [hs]
def LawWordsPost (x : List W) (w : World) (e : Ending) (w' : World) : Prop := (∃ A c, e = .returned (.slice A x.length c) ∧ TabB w.heap.size w' (.slice A x.length c) x) ∧ Below w.heap.size w w'
theorem wordsTo_length (g most : Nat) : ∀ (f : Nat) (l : List Int), (wordsTo g most f l).length ≤ f
  | 0, _ => Nat.le_refl _
  | _ + 1, [] => Nat.zero_le _
  | f + 1, x :: l => by
    rw [wordsTo, List.length_cons]
    have := wordsTo_length g most f (l.drop (min (x % ((most + 1 : Nat) : Int)).toNat l.length))
    omega
end Go.Proofs
namespace Go.Proofs
open Go.RowKit Go.Shelf Go.Proofs.Ct Go.Maps
/-- a word in blocks from base on -/
def IntsB (base : Nat) (w : World) (u : Value) (x : List Int) : Prop := ∀ w' : World, (∀ k, base ≤ k → k < w.heap.size → w'.heap[k]? = w.heap[k]?) → IntsAt w' u x
section
variable {base : Nat} {w w' : World} {u : Value} {x : List Int}
theorem IntsB.at_ (h : IntsB base w u x) : IntsAt w u x := h w fun _ _ _ => rfl
theorem IntsB.below (h : IntsB base w u x) (hb : Below w.heap.size w w') : IntsB base w' u x := fun w'' h'' => h w'' fun k h1 h2 => (h'' k h1 (Nat.lt_of_lt_of_le h2 hb.size)).trans (hb.block k h2)
theorem IntsB.own {b2 : Nat} (h : OwnI b2 w u x) (hf : Fits x) (hb : base ≤ b2) : IntsB base w u x := fun w' hw => OwnI.ints (owns_keep h fun r hr => by
  obtain ⟨h1, C, hC⟩ := owns_block h r hr
  exact hw r (by omega) (Array.getElem?_eq_some_iff.1 hC).1) hf
theorem IntsB.lit (w : World) (x : List Int) (hf : Fits x) {n : Nat} (hn : x.length = n) (hm : n ≤ 1000) (hb : base ≤ w.heap.size) : IntsB base (w.alloc (.cells (ints x).toArray 3)) (.slice (some ⟨w.heap.size, 0, none⟩) n n) x := fun w' hw =>
  ints_blk ((hw w.heap.size hb (by simp)).trans (heap_alloc_new w _)) hf hn hm
theorem TabB.lit (w : World) (us : List Value) (xs : List W) {e : TypeId} {n : Nat} (hn : us.length = n) (hl : us.length = xs.length) (hm : us.length ≤ 1000) (hb : base ≤ w.heap.size) (h : ∀ i, i < xs.length → IntsB base w (us.getD i undef) (xs.getD i [])) :
    TabB base (w.alloc (.cells us.toArray e)) (.slice (some ⟨w.heap.size, 0, none⟩) n n) xs := fun w' hw =>
  tab_blk ((hw w.heap.size hb (by simp)).trans (heap_alloc_new w _)) hn hl hm fun i hi => (h i hi).below ((Below.refl _ _).alloc (Nat.le_refl _) _) w' hw
end
/-- the known presentations: generators, relators, order -/
def knownT : Nat → Int × List W × Int
  | 0 => (1, [powW [1] 7], 7)
  | 1 => (2, [powW [1] 2, powW [2] 2, powW [1, 2] 5], 10)
  | 2 => (2, [powW [1] 2, powW [2] 3, powW [1, 2] 3], 12)
  | 3 => (2, [powW [1] 2, powW [2] 3, powW [1, 2] 4], 24)
  | 4 => (2, [powW [1] 2, powW [2] 3, powW [1, 2] 5], 60)
  | 5 => (2, [powW [1] 4, [1, 1, -2, -2], [-2, 1, 2, 1]], 8)
  | 6 => (2, [powW [1] 3, powW [2] 3, powW [1, 2] 3, powW [1, -2] 3], 27)
  | 7 => (2, [powW [1] 4, powW [2] 6, [-1, -2, 1, 2]], 24)
  | 8 => (3, [powW [1] 2, powW [2] 2, [3, 3], powW [1, 2] 3, powW [2, 3] 3, powW [1, 3] 2], 24)
  | 9 => (2, [powW [1] 2, powW [2] 3, powW [1, 2] 7, powW [-1, -2, 1, 2] 4], 168)
  | 10 => (2, [[-2, 1, 2, -1, -1], [-1, 2, 1, -2, -2]], 1)
  | 11 => (3, [powW [1] 2, powW [2] 2, [3, 3], [-1, -2, 1, 2], [-1, -3, 1, 3], [-2, -3, 2, 3]], 8)
  | 12 => (2, [powW [1] 5, powW [2] 4, [-2, 1, 2, -1, -1]], 20)
  | _ => (2, [powW [1] 7, powW [2] 3, [-2, 1, 2, -1, -1]], 21)
def KnownPost (g : Int) (rels : List W) (n : Int) (w : World) (e : Ending) (w' : World) : Prop := (∃ A c, e = .returned (.tuple #[.agg #[.int .i64 g, .slice A rels.length c], .int .i64 n]) ∧ TabB (w.heap.size + 1) w' (.slice A rels.length c) rels) ∧ Below w.heap.size w w'
theorem powerK (w : World) (v : Value) (x : List Int) (n L : Nat) (h : IntsAt w v x) (hn : n ≤ 1000) (hx : x.length ≤ 100) (hL : (powW x n).length = L) : Calls Try.prog 136 #[v, .int .i64 (n : Int)] w fun e w' => ∃ A c, e = .returned (.slice A L c) ∧ OwnI w.heap.size w' (.slice A L c) (powW x n) ∧ Below w.heap.size w w' := by
  subst hL
  exact power112_any w v x n h hn hx
/-- the state of Known: the box of the result is still empty -/
structure KS (w W : World) : Prop where
  below : Below w.heap.size w W
  box : W.heap[w.heap.size]? = some (.cells zero40 40 (0, 0))
theorem KS.lt {w W : World} (h : KS w W) : w.heap.size + 1 ≤ W.heap.size := (Array.getElem?_eq_some_iff.1 h.box).1
theorem KS.below' {w W W' : World} (h : KS w W) (hb : Below W.heap.size W W') : KS w W' := ⟨h.below.trans (hb.mono h.below.size), (hb.block _ h.lt).trans h.box⟩
theorem known_start (w W : World) (h : W = ((((w.alloc (.cells zero40 40)).alloc (.cells (ints [1]).toArray 3)).alloc (.cells (ints [2]).toArray 3)).alloc (.cells (ints [1, 2]).toArray 3)).alloc (.cells (ints [-1, -2, 1, 2]).toArray 3)) :
    KS w W ∧ IntsB (w.heap.size + 1) W (.slice (some ⟨w.heap.size + 1, 0, none⟩) 1 1) [1] ∧ IntsB (w.heap.size + 1) W (.slice (some ⟨w.heap.size + 1 + 1, 0, none⟩) 1 1) [2] ∧ IntsB (w.heap.size + 1) W (.slice (some ⟨w.heap.size + 1 + 1 + 1, 0, none⟩) 2 2) [1, 2] ∧ IntsB (w.heap.size + 1) W (.slice (some ⟨w.heap.size + 1 + 1 + 1 + 1, 0, none⟩) 4 4) [-1, -2, 1, 2] := by
  subst h
  have hb : ∀ (V : World) (o : Obj), Below V.heap.size V (V.alloc o) := fun V o => (Below.refl _ _).alloc (Nat.le_refl _) _
  have s0 : KS w (w.alloc (.cells zero40 40)) := ⟨hb _ _, heap_alloc_new w _⟩
  have s1 := s0.below' (hb _ (.cells (ints [1]).toArray 3))
  have s2 := s1.below' (hb _ (.cells (ints [2]).toArray 3))
  have s3 := s2.below' (hb _ (.cells (ints [1, 2]).toArray 3))
  have s4 := s3.below' (hb _ (.cells (ints [-1, -2, 1, 2]).toArray 3))
  have f4 := (((IntsB.lit (base := w.heap.size + 1) _ [1] (fits_lit (by decide)) (n := 1) rfl (by omega) s0.lt).below (hb _ (.cells (ints [2]).toArray 3))).below (hb _ (.cells (ints [1, 2]).toArray 3))).below (hb _ (.cells (ints [-1, -2, 1, 2]).toArray 3))
  have f5 := ((IntsB.lit (base := w.heap.size + 1) _ [2] (fits_lit (by decide)) (n := 1) rfl (by omega) s1.lt).below (hb _ (.cells (ints [1, 2]).toArray 3))).below (hb _ (.cells (ints [-1, -2, 1, 2]).toArray 3))
  have f6 := (IntsB.lit (base := w.heap.size + 1) _ [1, 2] (fits_lit (by decide)) (n := 2) rfl (by omega) s2.lt).below (hb _ (.cells (ints [-1, -2, 1, 2]).toArray 3))
  have f7 := IntsB.lit (base := w.heap.size + 1) _ [-1, -2, 1, 2] (fits_lit (by decide)) (n := 4) rfl (by omega) s3.lt
  simp only [World.size_alloc] at f4 f5 f6 f7
  exact ⟨s4, f4, f5, f6, f7⟩
theorem known_end {w W : World} (h : KS w W) {us : List Value} {xs : List (List Int)} {n : Nat} (hn : us.length = n) (hl : xs.length = n) (hr : ∀ i, i < n → IntsB (w.heap.size + 1) W (us.getD i undef) (xs.getD i [])) (hm : n ≤ 1000) (g : Int) :
    (W.alloc (.cells us.toArray 25)).heap[w.heap.size]? = some (.cells zero40 40 (0, 0)) ∧
      TabB (w.heap.size + 1) ((W.alloc (.cells us.toArray 25)).setRow w.heap.size #[.int .i64 g, .slice (some ⟨W.heap.size, 0, none⟩) n n]) (.slice (some ⟨W.heap.size, 0, none⟩) xs.length n) xs ∧
      Below w.heap.size w ((W.alloc (.cells us.toArray 25)).setRow w.heap.size #[.int .i64 g, .slice (some ⟨W.heap.size, 0, none⟩) n n]) := by
  have hb : Below W.heap.size W (W.alloc (.cells us.toArray 25)) := (Below.refl _ _).alloc (Nat.le_refl _) _
  have h2 := h.below' hb
  refine ⟨h2.box, ?_, below_setRow h2.below (Nat.le_refl _) _⟩
  rw [hl]
  exact (TabB.lit W us xs hn (by omega) (by omega) h.lt (fun i hi => hr i (by omega))).keep (by rw [World.setRow]; simp) fun k hk _ => setRow_other _ _ k _ (by omega)
end Go.Proofs
