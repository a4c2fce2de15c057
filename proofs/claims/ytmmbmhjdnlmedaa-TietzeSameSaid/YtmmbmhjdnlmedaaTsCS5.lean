/- Words that numbers select: Turn, Letter, WordOf; WordsOf; power; the words of a law; CosetMaps: the image of a point under a word (f65); append of one list to another of the call's own; Parents and their roots, plainly; The state of an enumeration in memory: rows that are written, parents, a queue; Holds: the plain law; the closures of coset.Holds; coset.Holds; The reference's system in memory: its box, its rows of numbers; The reference's system under construction; The reference's rewrite of a system; rewrite.Present: what it answers; structs of type 40; the relators under way; rewrite.Present; The law of chapter 21: same, half, awake; cayleyref17.Same; the walk of RewritePresents; A region that draws its order, with guarded operations: each operation is shown once. -/
import Derived.Test.YtmmbmhjdnlmedaaTsCS3
import Derived.Test.YtmmbmhjdnlmedaaTsCS4
import Derived.Test.YtmmbmhjdnlmedaaTsCS2
import Derived.Test.YtmmbmhjdnlmedaaTsCS1
import Derived.Deep.MidRow
import Derived.Deep.RegionHeld3
namespace Go.Proofs
open Go.RowKit Go.Shelf Go.Proofs.Ct Go.Maps
theorem turn59_any (w : World) (x : Int) (n : Nat) (hn : 1 ≤ n ∧ n ≤ 9000000) : Calls Try.prog 13 #[.int .i64 x, .int .i64 (n : Int)] w fun e w' => e = .returned (.int .i64 (x % (n : Int))) ∧ w' = w := by
  have hk0 : (0 : Int) < (n : Int) := by omega
  have hk1 : (n : Int) ≤ 9000000 := by omega
  have h3 : x.tmod n < n := Int.tmod_lt_of_pos _ hk0
  have h4 : -(n : Int) < x.tmod n := by
    have := Int.lt_tmod_of_pos x hk0
    omega
  have h5 : (x.tmod n + n).tmod n = x % n := by
    rw [Int.tmod_eq_emod_of_nonneg (by omega), Int.add_emod_right, Int.tmod_eq_emod]
    split <;> simp
  have H5 := Lib.hid h5
  clear h5
  generalize hm : x.tmod (n : Int) = m at *
  have hne : (n : Int) ≠ 0 := by omega
  have h6 : (m + n).tmod n < n := Int.tmod_lt_of_pos _ hk0
  have h7 : 0 ≤ (m + n).tmod (n : Int) := by rw [H5.out]; exact Int.emod_nonneg _ hne
  generalize hz : (m + (n : Int)).tmod (n : Int) = z at *
  go_enter Try.func13, Try.ntmps13
  go_wp2_with fail
  go_ret
  exact ⟨ret_int (by first | exact H5.out | (rw [← H5.out])), (by first | trivial | rfl)⟩
theorem letter61_any (w : World) (c : Nat) (hc : c ≤ 9000000) : Calls Try.prog 72 #[.int .i64 (c : Int)] w fun e w' => e = .returned (.int .i64 (letter c)) ∧ w' = w := by
  have h0 : (0 : Int) ≤ (c : Int) := Int.natCast_nonneg _
  have h1 : (c : Int) ≤ 9000000 := by omega
  have hm : (c : Int).tmod 2 = (c : Int) % 2 := Int.tmod_eq_emod_of_nonneg h0
  have hd : (c : Int).tdiv 2 = (c : Int) / 2 := Int.tdiv_eq_ediv_of_nonneg h0
  have HL : Hid (letter c = if (c : Int) % 2 = 0 then (c : Int) / 2 + 1 else -((c : Int) / 2 + 1)) := Lib.hid (by
    unfold letter
    split <;> split <;> omega)
  generalize hy : (c : Int) / 2 = y at *
  have hy0 : 0 ≤ y := by omega
  have hy1 : y ≤ 9000000 := by omega
  by_cases h : (c : Int) % 2 = 0
  · have d1 : ((c : Int) % 2 == 0) = true := by simpa using h
    rw [if_pos h] at HL
    generalize (c : Int) % 2 = m at *
    generalize letter c = l at *
    clear h
    go_enter Try.func72, Try.ntmps72
    go_wp2_with fail
    go_ret
    exact ⟨ret_int (by rw [HL.out]), (by first | trivial | rfl)⟩
  · have d1 : ((c : Int) % 2 == 0) = false := by simpa using h
    rw [if_neg h] at HL
    generalize (c : Int) % 2 = m at *
    generalize letter c = l at *
    clear h
    go_enter Try.func72, Try.ntmps72
    go_wp2_with fail
    go_ret
    exact ⟨ret_int (by rw [HL.out]), (by first | trivial | rfl)⟩
/-- the word that numbers select -/
def wordOf (g : Nat) (l : List Int) : List Int := l.map fun x => letter (x % ((2 * g : Nat) : Int)).toNat
theorem length_wordOf (g : Nat) (l : List Int) : (wordOf g l).length = l.length := by simp [wordOf]
theorem wordOf_take {g : Nat} {l : List Int} {k : Nat} (h : k < l.length) : wordOf g (l.take (k + 1)) = wordOf g (l.take k) ++ [letter (l.getD k 0 % ((2 * g : Nat) : Int)).toNat] := by
  rw [take_snoc (d := 0) h]
  simp [wordOf]
def WordPost (x : List Int) (w : World) (e : Ending) (w' : World) : Prop := ∃ A c, e = .returned (.slice A x.length c) ∧ OwnI w.heap.size w' (.slice A x.length c) x ∧ Below w.heap.size w w'
set_option maxRecDepth 100000 in
set_option maxHeartbeats 1000000 in
theorem wordOf39_any (w : World) (v : Value) (l : List Int) (g : Nat) (h : IntsAt w v l) (hg : 1 ≤ g ∧ g ≤ 1000) (hl : l.length ≤ 9000000) : Calls Try.prog 54 #[v, .int .i64 (g : Int)] w (WordPost (wordOf g l) w) := by
  obtain ⟨A, c, rfl, h1, h2, h3⟩ := h.open_
  have HL := Lib.hid h3
  have HF := Lib.hid h.2
  have h0 : OwnI w.heap.size w (.slice none 0 0) [] := World.ownsRow_nil _ _ _ _
  have H0 := Lib.hid h0
  have hg0 : (0 : Int) ≤ (g : Int) := Int.natCast_nonneg _
  have hg1 : (g : Int) ≤ 1000 := by omega
  have hgg : 2 * (g : Int) = ((2 * g : Nat) : Int) := by omega
  have HGG := Lib.hid hgg
  clear h h3 h0 hgg
  unfold WordPost
  go_enter Try.func54, Try.ntmps54
  go_wp2_with fail
  go_loopw [5, 6] (fun so i wr => ∃ k : Nat, i = .int .i64 k ∧ k ≤ l.length ∧ ∃ A c, so = .slice A k c ∧ Hid (OwnI w.heap.size wr so (wordOf g (l.take k))) ∧ Hid (Below w.heap.size w wr)) (fun _ i _ => l.length - (intOf i).toNat)
  case atStart => exact ⟨0, rfl, by omega, none, 0, rfl, H0, Lib.hid (Below.refl _ _)⟩
  case round =>
    clear H0
    obtain ⟨k, rfl, hk, A2, c2, rfl, HO, HB⟩ := hrel
    have hk0 : (0 : Int) ≤ (k : Int) := Int.natCast_nonneg _
    by_cases hlt : k < l.length
    · have hlt' : (k : Int) < (l.length : Int) := by omega
      obtain ⟨b, o, rfl, hcc⟩ := HL.out (by omega)
      have hu0 := hcc k hlt
      have hu := (HB.out.cell (p := ⟨b, o + k, none⟩) (World.block_lt_of_cell? w _ hu0)).trans hu0
      have HW := Lib.hid (wordOf_take (g := g) hlt)
      have hm0 := Int.emod_nonneg (l.getD k 0) (show ((2 * g : Nat) : Int) ≠ 0 by omega)
      have hm1 := Int.emod_lt_of_pos (l.getD k 0) (show (0 : Int) < ((2 * g : Nat) : Int) by omega)
      have HT : Hid (∀ W, Calls Try.prog 13 #[.int .i64 (l.getD k 0), .int .i64 (2 * (g : Int))] W fun e w' => e = .returned (.int .i64 ((l.getD k 0 % ((2 * g : Nat) : Int)).toNat : Nat)) ∧ w' = W) := Lib.hid fun W => by
        rw [HGG.out, Int.toNat_of_nonneg hm0]
        exact turn59_any W _ (2 * g) (by omega)
      have HLT : Hid (∀ W, Calls Try.prog 72 #[.int .i64 ((l.getD k 0 % ((2 * g : Nat) : Int)).toNat : Nat)] W fun e w' => e = .returned (.int .i64 (letter (l.getD k 0 % ((2 * g : Nat) : Int)).toNat)) ∧ w' = W) := Lib.hid fun W => letter61_any W _ (by omega)
      have hol : (wordOf g (l.take k)).length = k := by rw [length_wordOf, List.length_take]; omega
      obtain ⟨A', c', w', hr, ho, hgr, hw⟩ := push_int 24 24 Try.underlying24 wr w.heap.size _ _ HO.out (letter (l.getD k 0 % ((2 * g : Nat) : Int)).toNat) (by omega) HB.out.size
      rw [hol] at hr ho
      rw [← HW.out] at ho
      have HR := Lib.hid hr
      have HO' := Lib.hid ho
      have HB' : Hid (Below w.heap.size w w') := Lib.hid (HB.out.grown hgr HB.out.size fun r hr => (owns_block HO.out r hr).1)
      clear hr ho hw hcc hu0 hgr HW hol hm0 hm1
      generalize (l.getD k 0 % ((2 * g : Nat) : Int)).toNat = n at *
      generalize letter n = z at *
      generalize l.getD k 0 = x at *
      go_wp2_with (first
        | (go_at_call 13; (refine (HT.out _).mono ?_); rintro e w1 ⟨rfl, rfl⟩)
        | (go_at_call 72; (refine (HLT.out _).mono ?_); rintro e w1 ⟨rfl, rfl⟩)
        | ((with_reducible refine wpList_sel 23 ?_); refine wpList_val rfl (r_app (.tmp 13) (.tmp 22) 24 rfl rfl rfl HR.out) ?_))
      go_roundw
      case rel => exact ⟨k + 1, by go_num, by omega, _, _, rfl, HO', HB'⟩
      case measure => simp [intOf]; omega
    · obtain rfl : k = l.length := by omega
      have ho := HO.out
      rw [List.take_of_length_le (Nat.le_refl _)] at ho
      have HE : Hid (∃ A c, Ending.returned (.slice A2 l.length c2) = .returned (.slice A (wordOf g l).length c) ∧ OwnI w.heap.size wr (.slice A (wordOf g l).length c) (wordOf g l) ∧ Below w.heap.size w wr) := Lib.hid ⟨A2, c2, by rw [length_wordOf], by rw [length_wordOf]; exact ho, HB.out⟩
      clear ho
      go_wp2_with fail
      go_ret
      exact HE.out
end Go.Proofs
namespace Go.Proofs
open Go.RowKit Go.Shelf Go.Proofs.Ct Go.Maps
theorem under24e : Try.prog.underlying 23 = some (.slice (Try.prog.elem 23)) := by kernel_rfl
theorem r_slice_lo {o : Oper} {a : Act} {w : World} (x y : Operand) (A : Option Addr) (n c k : Nat) (ho : o.op = .slice 23 x (some y) none none) (hx : a.eval x = .slice A n c) (hy : a.eval y = .int .i64 (k : Int)) (hk : k ≤ n) : (execOp a.eval o).run Try.prog w = .ok (.value (sliced A k n c 1)) w := by
  have hu := under24e
  have hs : (sizeOf (Try.prog.elem 23)).run Try.prog w = .ok 1 w := by kernel_rfl
  unfold execOp
  simp only [ho, hx, hy, Option.map_none, Option.map_some, Sem.run_bind, run_sliceAt_slice w 23 _ _ _ _ hu, run_slice_l w 23 A n c hu .i64 (k : Int) (by omega) (by omega)]
  simp [hs]
theorem r_slice_lohi {o : Oper} {a : Act} {w : World} (x y z : Operand) (A : Option Addr) (n c k h : Nat) (ho : o.op = .slice 23 x (some y) (some z) none) (hx : a.eval x = .slice A n c) (hy : a.eval y = .int .i64 (k : Int)) (hz : a.eval z = .int .i64 (h : Int)) (hk : k ≤ h) (hc : h ≤ c) : (execOp a.eval o).run Try.prog w = .ok (.value (sliced A k h c 1)) w := by
  have hu := under24e
  have hs : (sizeOf (Try.prog.elem 23)).run Try.prog w = .ok 1 w := by kernel_rfl
  unfold execOp
  simp only [ho, hx, hy, hz, Option.map_none, Option.map_some, Sem.run_bind, run_sliceAt_slice w 23 _ _ _ _ hu, run_slice_lh w 23 A n c hu .i64 .i64 (k : Int) (h : Int) (by omega) (by omega) (by omega)]
  simp [hs]
theorem ints_sliced {w : World} {A : Option Addr} {c k h : Nat} {l : List Int} (hI : IntsAt w (.slice A l.length c) l) (hk : k ≤ h) (hh : h ≤ l.length) : ∃ A', sliced A k h c 1 = .slice A' (h - k) (c - k) ∧ IntsAt w (.slice A' (h - k) (c - k)) ((l.take h).drop k) := by
  obtain ⟨⟨A0, n, cap, e, h1, h2, h3, h4⟩, hf⟩ := hI
  obtain ⟨rfl, rfl, rfl⟩ := Value.slice.inj e
  refine ⟨_, rfl, ⟨_, _, _, rfl, by simp [ints]; omega, by omega, by omega, fun hp => ?_⟩, fun y hy => hf y (List.mem_of_mem_take (List.mem_of_mem_drop hy))⟩
  obtain ⟨b, off, rfl, hr⟩ := h4 (by omega)
  refine ⟨b, off + k, ?_, fun j v hj => ?_⟩
  · rw [if_neg (by omega), Nat.mul_one]
    exact congrArg some (Addr.add_mid b off k)
  · have hj' : (ints l)[k + j]? = some v := by
      simp only [ints, List.getElem?_map, List.getElem?_drop, List.getElem?_take] at hj ⊢
      split at hj
      · exact hj
      · simp at hj
    have := hr (k + j) v hj'
    rwa [show off + k + j = off + (k + j) by omega]
/-- the words that numbers select -/
def wordsTo (g most : Nat) : Nat → List Int → List W
  | 0, _ => []
  | _ + 1, [] => []
  | f + 1, x :: l => wordOf g (l.take (min (x % ((most + 1 : Nat) : Int)).toNat l.length)) :: wordsTo g most f (l.drop (min (x % ((most + 1 : Nat) : Int)).toNat l.length))
def wordsOf (g most : Nat) (l : List Int) : List W := wordsTo g most l.length l
theorem wordsTo_nil (g most f : Nat) : wordsTo g most f [] = [] := by cases f <;> rfl
theorem fits_wordOf {g : Nat} (hg : 1 ≤ g ∧ g ≤ 400) (l : List Int) : Fits (wordOf g l) := fun x hx => by
  obtain ⟨y, -, rfl⟩ := List.mem_map.1 hx
  have h1 := Int.emod_nonneg y (show ((2 * g : Nat) : Int) ≠ 0 by omega)
  have h2 := Int.emod_lt_of_pos y (show (0 : Int) < ((2 * g : Nat) : Int) by omega)
  have := letter_bd (c := (y % ((2 * g : Nat) : Int)).toNat) (by omega)
  omega
theorem r_min2 {o : Oper} {a : Act} {w : World} (x y : Operand) (i j z : Int) (ho : o.op = .call { callee := .builtin .min, args := #[x, y], argTypes := #[3, 3] }) (hx : a.eval x = .int .i64 i) (hy : a.eval y = .int .i64 j) (hz : z = min i j) : (execOp a.eval o).run Try.prog w = .ok (.value (.int .i64 z)) w := by
  have e : (if j < i then j else i) = z := by rw [hz]; split <;> omega
  unfold execOp
  simp only [ho, resolve, invoke, builtin, Sem.run_bind, Sem.run_pure, Result.andThen_ok, List.map_toArray, List.map_cons, List.map_nil, hx, hy, run_min_int2, e]
end Go.Proofs
namespace Go.Proofs
open Go.RowKit Go.Shelf Go.Proofs.Ct Go.Maps
theorem r_slice_hi31 {o : Oper} {a : Act} {w : World} (x y : Operand) (A : Option Addr) (n c h : Nat) (ho : o.op = .slice 25 x none (some y) none) (hx : a.eval x = .slice A n c) (hy : a.eval y = .int .i64 (h : Int)) (hc : h ≤ c) : (execOp a.eval o).run Try.prog w = .ok (.value (sliced A 0 h c 1)) w := by
  have hu : Try.prog.underlying 25 = some (.slice (Try.prog.elem 25)) := by kernel_rfl
  have hs : (sizeOf (Try.prog.elem 25)).run Try.prog w = .ok 1 w := by kernel_rfl
  unfold execOp
  simp only [ho, hx, hy, Option.map_none, Option.map_some, Sem.run_bind, run_sliceAt_slice w 25 _ _ _ _ hu, run_slice_h w 25 A n c hu .i64 (h : Int) (by omega) (by omega)]
  simp [hs]
/-- the words of a law: the first m of those that numbers select -/
def lawWords (g m : Nat) (l : List Int) : List W := (wordsOf g 12 l).take m
theorem wordsTo_length (g most : Nat) : ∀ (f : Nat) (l : List Int), (wordsTo g most f l).length ≤ f
  | 0, _ => Nat.le_refl _
  | _ + 1, [] => Nat.zero_le _
  | f + 1, x :: l => by
    rw [wordsTo, List.length_cons]
    have := wordsTo_length g most f (l.drop (min (x % ((most + 1 : Nat) : Int)).toNat l.length))
    omega
end Go.Proofs
namespace Go.Proofs
open Go.RowKit Go.Shelf Go.Proofs.Ct Go.Maps
def nz (a : List Nat) : List Int := a.map fun (x : Nat) => (x : Int)
theorem length_nz (a : List Nat) : (nz a).length = a.length := by simp [nz]
theorem nz_getD (a : List Nat) (k : Nat) : (nz a).getD k 0 = ((a.getD k 0 : Nat) : Int) := by
  unfold nz
  rw [List.getD_eq_getElem?_getD, List.getD_eq_getElem?_getD, List.getElem?_map]
  cases a[k]? <;> rfl
/-- the two permutations in memory -/
def Two (w : World) (vm : Value) (a b : List Nat) : Prop := Tab w vm [nz a, nz b]
def row2 (a b : List Nat) (q : Nat) : List Nat := if q = 0 then a else b
theorem row2_prm {a b : List Nat} {d q : Nat} (ha : Prm d a) (hb : Prm d b) : Prm d (row2 a b q) := by
  unfold row2
  split
  · exact ha
  · exact hb
theorem actW_take {act : Nat → Nat → Nat} {x : Nat} {ws : Ct.W} {k : Nat} (h : k < ws.length) : actW act x (ws.take (k + 1)) = act (actW act x (ws.take k)) (col (ws.getD k 0)) := by
  rw [take_snocW h, actW_app]; rfl
/-- how the two lie in memory -/
theorem Two.open_ {w : World} {vm : Value} {a b : List Nat} {d : Nat} (h : Two w vm a b) (ha : Prm d a) (hb : Prm d b) (hd : 1 ≤ d) : ∃ bm om cm, vm = .slice (some ⟨bm, om, none⟩) 2 cm ∧ ∀ q, q < 2 → ∃ bq oq cq, w.cell? ⟨bm, om + q, none⟩ = some (.slice (some ⟨bq, oq, none⟩) d cq) ∧ ∀ y, y < d → w.cell? ⟨bq, oq + y, none⟩ = some (.int .i64 (((row2 a b q).getD y 0 : Nat) : Int)) := by
  obtain ⟨A, c, rfl, -, -, hc⟩ := LAt.open_ h
  obtain ⟨bm, om, rfl, hr⟩ := hc (by simp)
  refine ⟨bm, om, c, rfl, fun q hq => ?_⟩
  obtain ⟨u, hu, hi⟩ := hr q (by simpa using hq)
  have e : ([nz a, nz b] : List (List Int)).getD q [] = nz (row2 a b q) := by
    have : q = 0 ∨ q = 1 := by omega
    rcases this with rfl | rfl <;> rfl
  rw [e] at hi
  obtain ⟨A', c', rfl, -, -, hc'⟩ := hi.open_
  rw [length_nz, (row2_prm ha hb).len] at hc' hu
  obtain ⟨b', o', rfl, hcc⟩ := hc' (by omega)
  exact ⟨b', o', c', hu, fun y hy => by rw [← nz_getD]; exact hcc y hy⟩
end Go.Proofs
namespace Go.Proofs
open Go.RowKit Go.Shelf Go.Maps
theorem run_append_none (w : World) (base : Nat) (t ty e : TypeId) (i : TypeInfo) (ht : Try.prog.underlying t = some (.slice e)) (hi : Try.prog.info? e = some i) (_hs : i.size = 1)
    (v : Value) (n : Nat) (xs : List Value) (cap : Nat) (hown : w.ownsRow base e 1 v n xs) : (Builtin.append_ #[t, t] ty #[v, .slice none 0 cap]).run Try.prog w = .ok v w := by
  rcases hown.2 with ⟨rfl, rfl⟩ | ⟨g, cap', cur, rfl, -, hg, hnc, hcm, hcs, htake⟩
  · simp [Builtin.append_, run_underlying ht, sizeOf, typeInfo, hi, Builtin.lenOf, Builtin.firstCells]
  · simp [Builtin.append_, run_underlying ht, sizeOf, typeInfo, hi, Builtin.lenOf, Builtin.firstCells, hnc, storeCells]
/-- append(v, u...): v is of the call's own, u is read -/
theorem run_app {t ty e : TypeId} {z : Value} {bytes : Nat} (ht : Try.prog.underlying t = some (.slice e)) (hi : ∃ i, Try.prog.info? e = some i ∧ i.zero = some z ∧ i.size = 1 ∧ i.bytes = bytes) (hz : z.cells.size = 1) (hby : bytes ≤ 1000)
    (w : World) (base : Nat) (v : Value) (n : Nat) (xs : List Value) (hown : w.ownsRow base e 1 v n xs) (u : Value) (ys : List Value) (hu : Sl w u ys) (h1 : ∀ y ∈ ys, y.oneCell' = true) (hn : n ≤ 1000000) (hm : ys.length ≤ 1000000) (hb : base ≤ w.heap.size) :
    ∃ A' c' w', (Builtin.append_ #[t, t] ty #[v, u]).run Try.prog w = .ok (.slice A' (n + ys.length) c') w' ∧ w'.ownsRow base e 1 (.slice A' (n + ys.length) c') (n + ys.length) (xs ++ ys) ∧
      w.grownBy w' v.ownBlock ∧ ((Value.slice A' (n + ys.length) c').ownBlock = v.ownBlock ∨ ∃ r, (Value.slice A' (n + ys.length) c').ownBlock = some r ∧ w.heap.size ≤ r) := by
  obtain ⟨i, hi, hz', hs, hb'⟩ := hi
  obtain ⟨A, m, cap, rfl, hl, hc1, hc2, hcells⟩ := hu
  cases A with
  | none =>
    have hm0 : ys = [] := by
      rcases Nat.eq_zero_or_pos m with h0 | h0
      · exact List.length_eq_zero_iff.1 (by omega)
      · obtain ⟨_, _, h, -⟩ := hcells h0; cases h
    subst hm0
    obtain ⟨A', c', rfl⟩ := owns_form hown
    have hm1 : m = 0 := hl
    subst hm1
    exact ⟨A', c', w, run_append_none w base t ty e i ht hi hs _ n xs cap hown, by simpa using hown, World.grownBy.refl w _, .inl rfl⟩
  | some a =>
    obtain ⟨v', w', hr, hown', hg, -, hw⟩ := run_append_own_at (P := Try.prog) w base t ty e i z 1 bytes ht hi hz' hs hb' hz (by omega) v n xs hown a m cap ys (by omega) (fun j y hy => by
        have hj := (List.getElem?_eq_some_iff.1 hy).1
        obtain ⟨b, off, ha, hr⟩ := hcells (by omega)
        rw [Option.some.inj ha]
        have h3 := hr j y hy
        rcases Nat.eq_zero_or_pos j with h0 | h0
        · subst h0; simpa [Addr.add] using h3
        · simpa [Addr.add, show j ≠ 0 by omega] using h3) h1 (by unfold maxLen; omega)
      (by have : (n + m) * bytes ≤ 2000000 * 1000 := Nat.mul_le_mul (by omega) hby
          omega) hb
    obtain ⟨A', c', rfl⟩ := owns_form hown'
    have hm1 : m = ys.length := by omega
    subst hm1
    refine ⟨A', c', w', hr, hown', hg, ?_⟩
    rcases hw with hw | hw
    · exact .inl hw
    · exact .inr ⟨_, hw, Nat.le_refl _⟩
theorem app_ints (ty t : TypeId) (ht : Try.prog.underlying t = some (.slice 3)) (w : World) (base : Nat) (v : Value) (xs : List Int) (h : OwnI base w v xs) (u : Value) (ys : List Int) (hu : IntsAt w u ys) (hx : xs.length ≤ 1000000) (hy : ys.length ≤ 1000000) (hb : base ≤ w.heap.size) :
    ∃ A' c' w', (Builtin.append_ #[t, t] ty #[v, u]).run Try.prog w = .ok (.slice A' (xs ++ ys).length c') w' ∧ OwnI base w' (.slice A' (xs ++ ys).length c') (xs ++ ys) ∧
      w.grownBy w' v.ownBlock ∧ ((Value.slice A' (xs ++ ys).length c').ownBlock = v.ownBlock ∨ ∃ r, (Value.slice A' (xs ++ ys).length c').ownBlock = some r ∧ w.heap.size ≤ r) := by
  obtain ⟨A', c', w', hr, ho, hg, hw⟩ := run_app (ty := ty) ht info3p rfl (by omega) w base v xs.length (ints xs) h u (ints ys) hu.1 (fun y hy => by
    obtain ⟨z, -, rfl⟩ := List.mem_map.1 hy; rfl) hx (by rw [length_ints]; exact hy) hb
  rw [length_ints] at hr ho hw
  refine ⟨A', c', w', by rw [List.length_append]; exact hr, ?_, hg, by rw [List.length_append]; exact hw⟩
  show w'.ownsRow base 3 1 _ (xs ++ ys).length (ints (xs ++ ys))
  rw [ints_app, List.length_append]
  exact ho
end Go.Proofs
namespace Go.Proofs.Ct
/-- in the list P of parents, the root of x is r -/
inductive Root (P : List Int) : Nat → Nat → Prop where
  | here {x : Nat} (h : P.getD x 0 = (x : Int)) : Root P x x
  | up {x y r : Nat} (h : P.getD x 0 = (y : Int)) (hl : y < x) (hr : Root P y r) : Root P x r
theorem Root.le {P : List Int} {x r : Nat} (h : Root P x r) : r ≤ x := by
  induction h with
  | here => exact Nat.le_refl _
  | up _ hl _ ih => omega
theorem Root.self {P : List Int} {x r : Nat} (h : Root P x r) : P.getD r 0 = (r : Int) := by
  induction h with
  | here h => exact h
  | up _ _ _ ih => exact ih
theorem Root.unique {P : List Int} {x r r' : Nat} (h : Root P x r) (h' : Root P x r') : r = r' := by
  induction h with
  | here h =>
    cases h' with
    | here => rfl
    | up h2 hl _ => omega
  | @up x y _ h hl hr ih =>
    cases h' with
    | here h2 => omega
    | @up _ y' _ h2 hl2 hr2 =>
      obtain rfl : y = y' := by omega
      exact ih hr2
theorem getD_set_of {l : List Int} {k j : Nat} {v : Int} (hk : k < l.length) : (l.set k v).getD j 0 = if k = j then v else l.getD j 0 := by
  rw [List.getD_eq_getElem?_getD, List.getElem?_set, List.getD_eq_getElem?_getD]
  by_cases h : k = j
  · subst h; simp [hk]
  · simp [h]
/-- a way is made shorter -/
theorem Root.short {P : List Int} {c q : Nat} (hc : Root P c q) (hcl : c < P.length) {x r : Nat} (h : Root P x r) : Root (P.set c (q : Int)) x r := by
  have hq := hc.self
  have hql := hc.le
  have hget : ∀ j, (P.set c (q : Int)).getD j 0 = if c = j then (q : Int) else P.getD j 0 := fun j => getD_set_of hcl
  have hrq : Root (P.set c (q : Int)) q q := .here (by
    rw [hget]
    split
    · rfl
    · exact hq)
  induction h with
  | @here x h =>
    refine .here ?_
    rw [hget]
    split
    · rename_i e
      subst e
      have := hc.unique (.here h)
      rw [this]
    · exact h
  | @up x y r h hl hr ih =>
    by_cases e : c = x
    · subst e
      have hr' := hc.unique (.up h hl hr)
      subst hr'
      have : q ≤ y := hr.le
      exact .up (y := q) (by rw [hget, if_pos rfl]) (by omega) hrq
    · exact .up (by rw [hget, if_neg e]; exact h) hl ih
/-- two roots are joined -/
theorem Root.link {P : List Int} {a b : Nat} (ha : P.getD a 0 = (a : Int)) (hb : P.getD b 0 = (b : Int)) (hba : b < a) (hal : a < P.length) {x r : Nat} (h : Root P x r) : Root (P.set a (b : Int)) x (if r = a then b else r) := by
  have hget : ∀ j, (P.set a (b : Int)).getD j 0 = if a = j then (b : Int) else P.getD j 0 := fun j => getD_set_of hal
  have hbb : Root (P.set a (b : Int)) b b := .here (by rw [hget, if_neg (by omega)]; exact hb)
  induction h with
  | @here x h =>
    by_cases e : x = a
    · subst e
      rw [if_pos rfl]
      exact .up (y := b) (by rw [hget, if_pos rfl]) hba hbb
    · rw [if_neg e]
      exact .here (by rw [hget, if_neg (fun h => e h.symm)]; exact h)
  | @up x y r h hl hr ih =>
    have e : a ≠ x := fun e => by subst e; omega
    exact .up (by rw [hget, if_neg e]; exact h) hl ih
theorem Root.more {P : List Int} {x r : Nat} (hx : x < P.length) (h : Root P x r) (z : Int) : Root (P ++ [z]) x r := by
  have hget : ∀ j, j < P.length → (P ++ [z]).getD j 0 = P.getD j 0 := fun j hj => by simp [List.getD_eq_getElem?_getD, List.getElem?_append_left hj]
  induction h with
  | here h => exact .here (by rw [hget _ hx]; exact h)
  | up h hl hr ih => exact .up (by rw [hget _ hx]; exact h) hl (ih (by omega))
/-- the parents give the representatives -/
structure Roots (P : List Int) (s : St) : Prop where
  len : P.length = s.t.length
  root : ∀ x, x < s.t.length → Root P x (s.rp x)
theorem Roots.short {P : List Int} {s : St} (h : Roots P s) {c : Nat} (hc : c < s.t.length) : Roots (P.set c (s.rp c : Int)) s :=
  ⟨by simpa using h.len, fun x hx => (h.root c hc).short (by rw [h.len]; exact hc) (h.root x hx)⟩
theorem Roots.merge {g : Nat} {P : List Int} {s : St} (hI : Inv g s) (h : Roots P s) {a b : Nat} (ha : a < s.t.length) (hb : b < s.t.length) (hne : s.rp a ≠ s.rp b) : Roots (P.set (max (s.rp a) (s.rp b)) ((min (s.rp a) (s.rp b) : Nat) : Int)) (mergeS s a b) := by
  have ht := t_merge s a b
  have hra := (h.root a ha).self
  have hrb := (h.root b hb).self
  have hla := hI.rlt ha
  have hlb := hI.rlt hb
  refine ⟨by rw [ht]; simpa using h.len, fun x hx => ?_⟩
  rw [ht] at hx
  rw [rp_merge hI ha hb hx]
  refine Root.link ?_ ?_ (by omega) (by rw [h.len]; omega) (h.root x hx)
  · rcases Nat.le_total (s.rp a) (s.rp b) with h' | h'
    · rw [Nat.max_eq_right h']; exact hrb
    · rw [Nat.max_eq_left h']; exact hra
  · rcases Nat.le_total (s.rp a) (s.rp b) with h' | h'
    · rw [Nat.min_eq_left h']; exact hra
    · rw [Nat.min_eq_right h']; exact hrb
theorem Roots.add {g : Nat} {P : List Int} {s : St} (hI : Inv g s) (h : Roots P s) (m : Nat) : Roots (P ++ [(s.t.length : Int)]) (addS m s) := by
  refine ⟨by rw [length_add]; simp [h.len], fun x hx => ?_⟩
  rw [length_add] at hx
  rcases Nat.lt_or_ge x s.t.length with h1 | h1
  · rw [rp_add_old hI m h1]
    exact (h.root x h1).more (by rw [h.len]; exact h1) _
  · obtain rfl : x = s.t.length := by omega
    rw [rp_add_new hI m]
    exact .here (by rw [← h.len]; simp [List.getD_eq_getElem?_getD])
/-- the rows and the queue do not matter -/
theorem Roots.of_rep {P : List Int} {s s' : St} (h : Roots P s) (hn : s'.t.length = s.t.length) (hr : s'.rep = s.rep) : Roots P s' :=
  ⟨by rw [hn]; exact h.len, fun x hx => by rw [hn] at hx; have := h.root x hx; unfold St.rp at this ⊢; rw [hr]; exact this⟩
end Go.Proofs.Ct
namespace Go.Proofs
open Go.RowKit Go.Shelf Go.Proofs.Ct Go.Maps
def nats (l : List Nat) : List Int := l.map Int.ofNat
/-- rows, parents and queue in memory, all of the call's own from base on -/
structure CoreM (base : Nat) (w : World) (s : St) (P : List Int) (vr vp vq : Value) (bl cs : Nat → Nat) : Prop where
  out : w.ownsRow base 23 1 vr s.t.length ((List.range s.t.length).map fun i => .slice (some ⟨bl i, 0, none⟩) (s.t.row i).length (cs i))
  row : ∀ i, i < s.t.length → base ≤ bl i ∧ XsAt w (bl i) (s.t.row i) ∧ (s.t.row i).length ≤ cs i ∧ cs i ≤ 9223372036854775807
  inj : ∀ i j, i < s.t.length → j < s.t.length → bl i = bl j → i = j
  par : OwnI base w vp P
  que : OwnI base w vq (nats s.q)
  sepP : ∀ i, i < s.t.length → vp.ownBlock ≠ some (bl i)
  sepQ : ∀ i, i < s.t.length → vq.ownBlock ≠ some (bl i)
  pq : ∀ r, vp.ownBlock = some r → vq.ownBlock ≠ some r
  root : Roots P s
section
variable {base : Nat} {w w' : World} {s : St} {P : List Int} {vr vp vq : Value} {bl cs : Nat → Nat}
/-- nothing of it lies in the blocks that turn -/
theorem CoreM.keep (h : CoreM base w s P vr vp vq bl cs) (hk : ∀ k C e, base ≤ k → w.heap[k]? = some (.cells C e (0, 0)) → (e = 3 ∨ e = 23) → w'.heap[k]? = w.heap[k]?) : CoreM base w' s P vr vp vq bl cs := by
  refine ⟨owns_keep h.out fun r hr => ?_, fun i hi => ?_, h.inj, owns_keep h.par fun r hr => ?_, owns_keep h.que fun r hr => ?_, h.sepP, h.sepQ, h.pq, h.root⟩
  · obtain ⟨a, C, hC⟩ := owns_block h.out r hr
    exact hk r C 23 a hC (.inr rfl)
  · obtain ⟨a, b, c⟩ := h.row i hi
    obtain ⟨C, hC, -⟩ := id b
    exact ⟨a, b.keep (hk _ C 3 a hC (.inl rfl)), c⟩
  · obtain ⟨a, C, hC⟩ := owns_block h.par r hr
    exact hk r C 3 a hC (.inl rfl)
  · obtain ⟨a, C, hC⟩ := owns_block h.que r hr
    exact hk r C 3 a hC (.inl rfl)
theorem CoreM.below (h : CoreM base w s P vr vp vq bl cs) (hb : Below w.heap.size w w') : CoreM base w' s P vr vp vq bl cs :=
  h.keep fun k _C _e _ hC _ => hb.block k (Array.getElem?_eq_some_iff.1 hC).1
/-- another block is written -/
theorem CoreM.other (h : CoreM base w s P vr vp vq bl cs) {b : Nat} {C0 : Array Value} {T : TypeId} (hb : w.heap[b]? = some (.cells C0 T (0, 0))) (h3 : T ≠ 3) (h24 : T ≠ 23) (k : Nat) (v : Value) : CoreM base (w.setCell ⟨b, k, none⟩ v) s P vr vp vq bl cs :=
  h.keep fun j C e _ hC he => Below.heap_setCell w ⟨b, k, none⟩ v j fun e' => by
    have e'' : j = b := e'
    rw [e'', hb] at hC
    cases hC
    rcases he with he | he <;> simp_all
theorem CoreM.len (h : CoreM base w s P vr vp vq bl cs) : P.length = s.t.length := h.root.len
/-- reading an element of a row -/
theorem CoreM.at_ (h : CoreM base w s P vr vp vq bl cs) {r c : Nat} (hr : r < s.t.length) (hc : c < (s.t.row r).length) : ∃ g cap, vr = .slice (some ⟨g, 0, none⟩) s.t.length cap ∧ w.cell? ⟨g, r, none⟩ = some (.slice (some ⟨bl r, 0, none⟩) (s.t.row r).length (cs r)) ∧ w.cell? ⟨bl r, c, none⟩ = some (.int .i64 (s.t.at r c)) ∧ w.frozen? ⟨bl r, c, none⟩ = false := by
  obtain ⟨-, hX, -⟩ := h.row r hr
  obtain ⟨hl, ho⟩ := h.out
  rcases ho with ⟨-, h0⟩ | ⟨g, cap, cur, rfl, hb, hC, h1, hm, hs, ht⟩
  · omega
  · refine ⟨g, cap, rfl, ?_, hX.cell hc, hX.frozen c⟩
    rw [cell_of_row _ _ _ _ _ _ hC]
    have h2 : (cur.toList.take (s.t.length * 1))[r]? = ((List.range s.t.length).map fun i => Value.slice (some ⟨bl i, 0, none⟩) (s.t.row i).length (cs i))[r]? := by rw [ht]
    rw [List.getElem?_take, if_pos (by omega)] at h2
    simpa [hr] using h2
/-- writing an element of a row -/
theorem CoreM.set (h : CoreM base w s P vr vp vq bl cs) {r c : Nat} (hr : r < s.t.length) (hc : c < (s.t.row r).length) (z : Int) : CoreM base (w.setCell ⟨bl r, c, none⟩ (.int .i64 z)) { s with t := set2 s.t r c z } P vr vp vq bl cs := by
  have hne : ∀ k, k ≠ bl r → (w.setCell ⟨bl r, c, none⟩ (.int .i64 z)).heap[k]? = w.heap[k]? := fun k hk => Below.heap_setCell w ⟨bl r, c, none⟩ _ k hk
  obtain ⟨-, hXr, -⟩ := h.row r hr
  obtain ⟨Cr, hCr, -⟩ := id hXr
  refine ⟨?_, fun i hi => ?_, fun i j hi hj => h.inj i j (by simpa [length_set2] using hi) (by simpa [length_set2] using hj), owns_keep h.par fun k hk => hne k (fun e => h.sepP r hr (by rw [hk, e])), owns_keep h.que fun k hk => hne k (fun e => h.sepQ r hr (by rw [hk, e])), fun i hi => h.sepP i (by simpa [length_set2] using hi), fun i hi => h.sepQ i (by simpa [length_set2] using hi), h.pq, h.root.of_rep (length_set2 _ _ _ _) rfl⟩
  · simp only [length_set2, rowlen_set2]
    refine owns_keep h.out fun k hk => hne k fun e => ?_
    obtain ⟨-, C, hC⟩ := owns_block h.out k hk
    rw [e, hCr] at hC
    cases hC
  · simp only [length_set2] at hi
    obtain ⟨a, b, d⟩ := h.row i hi
    simp only [rowlen_set2]
    refine ⟨a, ?_, d⟩
    rw [row_set2]
    by_cases e : r = i
    · subst e
      rw [if_pos ⟨rfl, hr⟩]
      exact hXr.set hc z
    · rw [if_neg (fun h' => e h'.1)]
      exact b.keep (hne _ fun e' => e (h.inj r i hr hi e'.symm))
end
end Go.Proofs
namespace Go.Proofs
open Go.RowKit Go.Shelf Go.Proofs.Ct Go.Maps
/-- the letters of a valid presentation -/
theorem presE_good {g : Int} {rels : List W} (h : presE g rels = 0) : ∃ gn : Nat, g = gn ∧ 1 ≤ gn ∧ gn ≤ 16 ∧ rels.length ≤ 100 ∧ ∀ j, j < rels.length → LetsOk gn (rels.getD j []) ∧ (rels.getD j []).length ≤ 4000 := by
  unfold presE at h
  by_cases h1 : g < 1 ∨ 16 < g
  · rw [if_pos h1] at h; omega
  · rw [if_neg h1] at h
    by_cases h2 : 100 < rels.length
    · rw [if_pos h2] at h; omega
    · rw [if_neg h2] at h
      have hz : ∀ j, j < rels.length → presBad g.toNat rels j = 0 := by
        cases hf : first (fun k => decide (presBad g.toNat rels k ≠ 0)) rels.length with
        | none => intro j hj; simpa using first_none' hf j hj
        | some k =>
          rw [hf] at h
          have h3 := (first_some' hf).2.1
          simp at h3
          exact absurd h h3
      refine ⟨g.toNat, by omega, by omega, by omega, by omega, fun j hj => ?_⟩
      have hb := hz j hj
      unfold presBad at hb
      by_cases h3 : 4000 < sumTo rels (j + 1)
      · rw [if_pos h3] at hb; omega
      · rw [if_neg h3] at hb
        refine ⟨letsOk_of ?_, ?_⟩
        · cases hx : (rels.getD j []).any (letBad g.toNat) with
          | false => rfl
          | true => rw [hx] at hb; simp at hb
        · rw [sumTo_succ] at h3; omega
theorem load40 {w : World} {b : Nat} {v0 v1 : Value} (hc : w.heap[b]? = some (.cells #[v0, v1] 27 (0, 0))) : (Instr.loadAt 27 (.pointer (some ⟨b, 0, none⟩))).run Try.prog w = .ok (.agg #[v0, v1]) w := by
  have hr : w.rangeAt b 0 [v0, v1] := fun j v hj => by rw [cell_of_row _ _ _ _ _ _ hc, Nat.zero_add]; simpa using hj
  exact run_loadAt_mid (P := Try.prog) w b 0 27 [v0, v1] _ hr Try.underlying27 rfl (by kernel_rfl)
end Go.Proofs
namespace Go.Proofs
open Go.RowKit Go.Shelf Go.Proofs.Ct Go.Maps
theorem LAt.cells {α : Type} {R : World → Value → α → Prop} {d : α} {w : World} {A : Option Addr} {n c : Nat} {xs : List α} (h : LAt R d w (.slice A n c) xs) : 0 < xs.length → ∃ b off, A = some ⟨b, off, none⟩ ∧ ∀ k, k < xs.length → ∃ u, w.cell? ⟨b, off + k, none⟩ = some u ∧ R w u (xs.getD k d) := by
  obtain ⟨A', c', e, -, -, h3⟩ := h.open_
  cases e
  exact h3
end Go.Proofs
namespace Go.Proofs
open Go.RowKit Go.Shelf Go.Proofs.Ct Go.Maps
section
variable {o : Oper} {a : Act} {w w' : World} {n : Nat} {v : Value}
end
/-- block b is the numbers x, no more -/
def XE (w : World) (b : Nat) (x : List Int) : Prop := w.heap[b]? = some (.cells (ints x).toArray 3 (0, 0))
theorem XE.set {w : World} {b : Nat} {x : List Int} (h : XE w b x) (k : Nat) (v : Int) : XE (w.setCell ⟨b, k, none⟩ (.int .i64 v)) b (x.set k v) := by
  unfold XE at h ⊢
  have : (ints x).toArray.setIfInBounds k (.int .i64 v) = (ints (x.set k v)).toArray := by simp [ints, List.map_set]
  rw [← this]
  simp [World.setCell, Array.getElem?_modify, h]
theorem XE.own {w : World} {b base : Nat} {x : List Int} (h : XE w b x) (hb : base ≤ b) {n : Nat} (hn : x.length = n) (hm : n ≤ 9000000) : OwnI base w (.slice (some ⟨b, 0, none⟩) n n) x := by
  subst hn
  refine ⟨by simp [ints], .inr ⟨b, x.length, (ints x).toArray, rfl, hb, h, Nat.le_refl _, ?_, by simp [ints], ?_⟩⟩
  · have : x.length ≤ 9223372036854775807 := by omega
    simpa [maxLen] using this
  · simp only [Nat.mul_one]
    exact List.take_of_length_le (by simp [ints])
theorem XE.frozen {w : World} {b : Nat} {x : List Int} (h : XE w b x) (k : Nat) : w.frozen? ⟨b, k, none⟩ = false := by
  simp [World.frozen?, show w.heap[b]? = _ from h]
theorem XE.cell {w : World} {b : Nat} {x : List Int} (h : XE w b x) {k : Nat} (hk : k < x.length) : w.cell? ⟨b, k, none⟩ = some (.int .i64 (x.getD k 0)) := by
  rw [cell_of_row _ _ _ _ _ _ (show w.heap[b]? = _ from h)]
  simp [ints, hk, List.getD_eq_getElem?_getD]
end Go.Proofs
namespace Go.Proofs
open Go.RowKit Go.Shelf Go.Proofs.Ct Go.Maps
section
variable {G : Int} {vt vr : Value} {F : Nat → Prop} {w1 W : World} {vn : Value} {n : Int} {rows : List (List Int)}
end
/-- the reference's system, as it reads -/
structure SysR (w : World) (vt vr vn : Value) (t : Tb) (R N : List (List Int)) : Prop where
  tab : Tab w vt t
  reps : Tab w vr R
  nums : Tab w vn N
theorem SysR.below {w w' : World} {vt vr vn : Value} {t : Tb} {R N : List (List Int)} (h : SysR w vt vr vn t R N) (hb : Below w.heap.size w w') : SysR w' vt vr vn t R N :=
  ⟨kept_tab.below h.tab hb, kept_tab.below h.reps hb, kept_tab.below h.nums hb⟩
end Go.Proofs
namespace Go.Proofs
open Go.RowKit Go.Shelf Go.Proofs.Ct Go.Maps
/-- the list under way -/
def ListSt (w0 wr : World) (so : Value) (X : List Int) : Prop := OwnI w0.heap.size wr so X ∧ Below w0.heap.size w0 wr
theorem ListSt.push {w0 wr : World} {A : Option Addr} {n c : Nat} {X : List Int} (h : ListSt w0 wr (.slice A n c) X) (hn : n = X.length) (z : Int) (hX : X.length ≤ 9000000) :
    ∃ A' c' w', (Builtin.append_ #[24, 24] 24 #[.slice A n c, .slice (some ⟨wr.heap.size, 0, none⟩) 1 1]).run Try.prog (wr.alloc (.cells #[.int .i64 z] 3)) = .ok (.slice A' (n + 1) c') w' ∧ ListSt w0 w' (.slice A' (n + 1) c') (X ++ [z]) := by
  subst hn
  obtain ⟨A', c', w', hr, ho, hg, -⟩ := push_int 24 24 Try.underlying24 wr w0.heap.size _ X h.1 z (by omega) h.2.size
  exact ⟨A', c', w', hr, ho, h.2.grown hg h.2.size (fun k hk => (owns_block h.1 k hk).1)⟩
end Go.Proofs
namespace Go.Proofs
open Go.RowKit Go.Shelf Go.Proofs.Ct Go.Maps
def zero40 : Array Value := #[.int .i64 0, .slice none 0 0]
theorem build40z (w : World) : (Instr.build 27 #[]).run Try.prog w = .ok (.agg zero40) w := by kernel_rfl
theorem alloc40 (w : World) : (Instr.alloc 27 true (.tuple #[])).run Try.prog w = .ok (.pointer (some ⟨w.heap.size, 0, none⟩)) (w.alloc (.cells zero40 27)) := by kernel_rfl
theorem info40s : (Try.prog.info? 27).map (·.size) = some 2 := by kernel_rfl
theorem zero40_one : zero40.all (·.oneCell') = true := by simp [zero40, Value.oneCell']
theorem one40 (A : Option Addr) (n a : Nat) (x : Int) : (#[Value.int .i64 x, .slice A n a] : Array Value).all (·.oneCell') = true := by simp [Value.oneCell']
section
variable {o : Oper} {a : Act} {w w' : World} {n : Nat} {v : Value}
theorem r_store40 (x y : Operand) (ho : o.op = .store 27 x y) (g : Nat) (old c' : Array Value) (hx : a.eval x = .pointer (some ⟨g, 0, none⟩)) (hy : a.eval y = .agg c') (hg : w.heap[g]? = some (.cells old 27 (0, 0)))
    (hi : c'.size = 2) (hoo : old.size = 2) (h1 : c'.all (·.oneCell') = true) : (execOp a.eval o).run Try.prog w = .ok .skip (w.setRow g c') := by
  unfold execOp
  simp only [ho, hx, hy, Instr.storeAt, Instr.sureAddr, Sem.run_bind, Sem.run_pure, Result.andThen_ok, run_storeVar_row w g 27 27 old c' hg (by rw [hi]; exact info40s) (by rw [hi, hoo]) h1]
theorem r_build40 (ho : o.op = .build 27 #[]) : (execOp a.eval o).run Try.prog w = .ok (.value (.agg zero40)) w := by
  have hb := build40z w
  unfold execOp
  simp only [ho, List.map_toArray, List.map_nil, Sem.run_bind, hb, Result.andThen_ok]
  rfl
theorem r_alloc40 (ho : o.op = .alloc 27) : (execOp a.eval o).run Try.prog w = .ok (.value (.pointer (some ⟨w.heap.size, 0, none⟩))) (w.alloc (.cells zero40 27)) := by
  have hb := alloc40 w
  unfold execOp
  simp only [ho, Sem.run_bind, hb, Result.andThen_ok]
  rfl
end
theorem results_40_tmp {fn : Func} {p q : Tmp} (h : fn.results = #[.cell p 27, .tmp q]) (tmps : Array Value) (w : World) (g : Nat) (cs : Array Value) (u : Value)
    (hp : tmps.getD p undef = .pointer (some ⟨g, 0, none⟩)) (hq : tmps.getD q undef = u) (hg : w.heap[g]? = some (.cells cs 27 (0, 0))) (hs : cs.size = 2) :
    (results fn tmps).run Try.prog w = .ok (.tuple #[.agg cs, u]) w := by
  have hp' : tmps[p]?.getD undef = .pointer (some ⟨g, 0, none⟩) := by simpa using hp
  have hq' : tmps[q]?.getD undef = u := by simpa using hq
  simp [results, h, hp', hq', asAddr, run_loadVar_row w g 27 27 cs (0, 0) _ hg Try.underlying27 rfl (by rw [hs]; exact info40s)]
/-- the relators under way: the result's box b, the list in it -/
structure PrSt (F : Nat → Prop) (w0 : World) (m : Int) (wr : World) (A : Option Addr) (c : Nat) (acc : List W) : Prop where
  out : OutSt 24 F w0 wr (.slice A acc.length c) acc
  box : wr.heap[w0.heap.size]? = some (.cells #[.int .i64 m, .slice A acc.length c] 27 (0, 0))
theorem PrSt.below' {F : Nat → Prop} {w0 wr w' : World} {m : Int} {A : Option Addr} {c : Nat} {acc : List W} (h : PrSt F w0 m wr A c acc) (hb : Below wr.heap.size wr w') : PrSt F w0 m w' A c acc :=
  ⟨h.out.below' hb, (hb.block _ (Array.getElem?_eq_some_iff.1 h.box).1).trans h.box⟩
theorem PrSt.first (w0 : World) (m : Int) : PrSt (fun _ => False) w0 m ((w0.alloc (.cells zero40 27)).setRow w0.heap.size #[.int .i64 m, .slice none 0 0]) none 0 [] :=
  ⟨OutSt.nil 24 (below_boxed (Below.refl _ _) _ _), setRow_heap _ _ _ _ _ _ (heap_alloc_new w0 _)⟩
theorem PrSt.push {F : Nat → Prop} {w0 wr w1 : World} {m : Int} {A : Option Addr} {c : Nat} {acc : List W} (h : PrSt F w0 m wr A c acc) {Ax : Option Addr} {cx : Nat} {x : List Int} (hb : Below wr.heap.size wr w1) (hx : OwnI wr.heap.size w1 (.slice Ax x.length cx) x) (hf : Fits x) (hl : acc.length ≤ 9000000) :
    ∃ A' c' w', (Builtin.append_ #[25, 25] 25 #[.slice A acc.length c, .slice (some ⟨w1.heap.size, 0, none⟩) 1 1]).run Try.prog (w1.alloc (.cells #[.slice Ax x.length cx] 24)) = .ok (.slice A' (acc.length + 1) c') w' ∧
      (w'.cell? ⟨w0.heap.size, 1, none⟩ = some (.slice A acc.length c) ∧ w'.frozen? ⟨w0.heap.size, 1, none⟩ = false) ∧
      PrSt (fun k => F k ∨ (Value.slice Ax x.length cx).ownBlock = some k) w0 m (w'.setCell ⟨w0.heap.size, 1, none⟩ (.slice A' (acc.length + 1) c')) A' c' (acc ++ [x]) := by
  have h1 := h.below' hb
  obtain ⟨A', c', w', hr, hS, hg⟩ := (h.out.with_row hb hx).done' (t := 25) (e := 24) (by decide) Try.underlying25 info25p hf hl
  have hbx : w'.heap[w0.heap.size]? = some (.cells #[.int .i64 m, .slice A acc.length c] 27 (0, 0)) := grown_cells hg h1.box fun e => by
    obtain ⟨-, C, hC⟩ := h1.out.out.block _ e
    rw [h1.box] at hC
    cases hC
  refine ⟨A', c', w', hr, ⟨(cell_of2 hbx).2, by simp [World.frozen?, hbx]⟩, ?_, ?_⟩
  · have := hS.grown (grown_setCell w' w0.heap.size 1 (.slice A' (acc.length + 1) c')) fun r hr => by
      cases hr
      refine ⟨Nat.le_refl _, fun hF => ?_, fun e => ?_⟩
      · obtain ⟨-, -, C, hC⟩ := hS.fs _ hF
        rw [hbx] at hC
        cases hC
      · obtain ⟨-, C, hC⟩ := hS.out.block _ e
        rw [hbx] at hC
        cases hC
    rwa [show (acc ++ [x]).length = acc.length + 1 by simp]
  · rw [show (acc ++ [x]).length = acc.length + 1 by simp]
    simp [World.setCell, Array.getElem?_modify, hbx]
end Go.Proofs
namespace Go.Proofs
open Go.RowKit Go.Shelf Go.Proofs.Ct Go.Maps
theorem below_setRow {B : Nat} {w w1 : World} (h : Below B w w1) {g : Nat} (hg : B ≤ g) (cs : Array Value) : Below B w (w1.setRow g cs) :=
  h.trans ⟨rfl, rfl, rfl, by rw [World.setRow]; simp, fun k hk => setRow_other _ _ k _ (by omega)⟩
end Go.Proofs
namespace Go.Proofs
open Go.RowKit Go.Shelf Go.Proofs.Ct Go.Maps
/-- numbers in a new block -/
theorem ints_lit (w : World) (xs : List Int) (hf : Fits xs) (n : Nat) (hn : xs.length = n) (hm : n ≤ 1000) : IntsAt (w.alloc (.cells (ints xs).toArray 3)) (.slice (some ⟨w.heap.size, 0, none⟩) n n) xs := by
  subst hn
  refine ⟨⟨_, xs.length, xs.length, rfl, by simp [ints], Nat.le_refl _, by have : xs.length ≤ 9223372036854775807 := by omega
                                                                           simpa [maxLen] using this, fun _ => ⟨w.heap.size, 0, rfl, fun j u hu => ?_⟩⟩, hf⟩
  rw [cell_of_row _ _ _ _ _ _ (heap_alloc_new w _), Nat.zero_add]
  simpa using hu
theorem tab_three (w : World) (u v z : Value) (x y q : List Int) (hu : IntsAt w u x) (hv : IntsAt w v y) (hz : IntsAt w z q) {e : TypeId} : Tab (w.alloc (.cells #[u, v, z] e)) (.slice (some ⟨w.heap.size, 0, none⟩) 3 3) [x, y, q] := by
  have hb : Below w.heap.size w (w.alloc (.cells #[u, v, z] e)) := (Below.refl _ _).alloc (Nat.le_refl _) _
  refine ⟨[u, v, z], ⟨_, 3, 3, rfl, rfl, Nat.le_refl _, by simp [maxLen], fun _ => ⟨w.heap.size, 0, rfl, fun j a ha => ?_⟩⟩, rfl, fun i hi => ?_⟩
  · rw [cell_of_row _ _ _ _ _ _ (heap_alloc_new w _), Nat.zero_add]
    simpa using ha
  · have : i = 0 ∨ i = 1 ∨ i = 2 := by simp at hi; omega
    rcases this with rfl | rfl | rfl
    · exact ⟨u, rfl, hu.below hb⟩
    · exact ⟨v, rfl, hv.below hb⟩
    · exact ⟨z, rfl, hz.below hb⟩
end Go.Proofs
namespace Go.Proofs
open Go.RowKit Go.Shelf Go.Proofs.Ct Go.Maps
theorem quiet_add_ex {P : Program} {f : FuncId} {args : Array Value} {w : World} {a n : Nat} {v : Value}
    (h : Calls P f args (w.drewN (a + n)) fun e w' => e = .returned v ∧ ∃ q, w' = (w.drewN (a + n)).drewN q) :
    Calls P f args (w.drewN (a + n)) fun e w'' => e = .returned v ∧ ∃ m, w'' = w.drewN (a + m) :=
  h.mono fun _ _ ⟨he, q, hm⟩ => ⟨he, n + q, by rw [hm, World.drewN_drewN, Nat.add_assoc]⟩
theorem wpList_valG {ops : Array Oper} {rest : List Oper} {o : Oper} {a : Act} {w w' : World} {Q : Exit → Act → World → Prop} {v : Value} (hg : Region.wanted o (yielded ops a.tmps) = true) (hrun : (execOp a.eval o).run Try.prog w = .ok (.value v) w') (h : wpList Try.prog ops Q rest (a.put o.dst v) w') : wpList Try.prog ops Q (o :: rest) a w :=
  BigFrame.wpList_want hg fun _ hK => by
    unfold Oper.wp
    rw [hrun]
    exact hK _ _ h
theorem LAt.cells' {α : Type} {R : World → Value → α → Prop} {d : α} {w : World} {v : Value} {xs : List α} (h : LAt R d w v xs) (A : Option Addr) (n c : Nat) (e : v = .slice A n c) : 0 < xs.length → ∃ b off, A = some ⟨b, off, none⟩ ∧ ∀ k, k < xs.length → ∃ u, w.cell? ⟨b, off + k, none⟩ = some u ∧ R w u (xs.getD k d) := by
  subst e
  exact h.cells
set_option maxRecDepth 100000 in
set_option maxHeartbeats 1000000 in
theorem equal80_any (w : World) (u v : Value) (x y : List Int) (hu : IntsAt w u x) (hv : IntsAt w v y) : Calls Try.prog 27 #[u, v] w fun e w' => e = .returned (.bool (decide (x = y))) ∧ ∃ q, w' = w.drewN q := by
  obtain ⟨A, c, rfl, h1, h2, h3⟩ := hu.open_
  obtain ⟨B, d, rfl, k1, k2, k3⟩ := hv.open_
  have HA := Lib.hid h3
  have HB := Lib.hid k3
  have hx0 : (0 : Int) ≤ (x.length : Int) := Int.natCast_nonneg _
  clear hu hv h3 k3
  by_cases hl : x.length = y.length
  · have d1 : ((x.length : Int) != (y.length : Int)) = false := by simp; omega
    have d2 : (x.length != y.length) = false := by simp; omega
    have HL := Lib.hid hl
    clear hl
    go_enter Try.func27, Try.ntmps27
    go_wp2_with fail
    go_loopw [5] (fun i wr => ∃ k : Nat, k ≤ x.length ∧ i = .int .i64 k ∧ Hid (∀ j, j < k → x.getD j 0 = y.getD j 0) ∧ ∃ q, wr = w.drewN q) (fun i _ => x.length - (intOf i).toNat)
    case atStart => exact ⟨0, Nat.zero_le _, rfl, Lib.hid fun j hj => absurd hj (by omega), 0, rfl⟩
    case round =>
      obtain ⟨k, hk, rfl, HZ, q, rfl⟩ := hrel
      have hk0 : (0 : Int) ≤ (k : Int) := Int.natCast_nonneg _
      by_cases hlt : k < x.length
      · obtain ⟨ba, oa, rfl, hca⟩ := HA.out (by omega)
        obtain ⟨bb, ob, rfl, hcb⟩ := HB.out (by rw [← HL.out]; omega)
        have hx1 := hca k hlt
        have hx2 := hcb k (by rw [← HL.out]; omega)
        have hka : (k : Int) < (x.length : Int) := by omega
        have hkb : (k : Int) < (y.length : Int) := by rw [← HL.out]; omega
        have HK : Hid (x.getD k 0 = y.getD k 0 → ∀ j, j < k + 1 → x.getD j 0 = y.getD j 0) := Lib.hid fun h => all_succ HZ.out h
        have HN : Hid (x.getD k 0 ≠ y.getD k 0 → x ≠ y) := Lib.hid fun h => getD_ne h
        clear hca hcb
        generalize x.getD k 0 = s at *
        generalize y.getD k 0 = t at *
        by_cases hst : s = t
        · have d5 : (s != t) = false := by simpa using hst
          have HK2 := Lib.hid (HK.out hst)
          clear hst HK HN
          go_wp2_with fail
          go_quiet (fail)
          go_wp2_with fail
          go_roundw
          case rel => exact ⟨k + 1, by omega, by go_num, HK2, (by first | exact ⟨_, rfl⟩ | exact ex_drewN)⟩
          case measure => simp [intOf]; omega
        · have d5 : (s != t) = true := by simpa using hst
          have HD : Hid (decide (x = y) = false) := Lib.hid (decide_eq_false (HN.out hst))
          clear hst HK HN
          go_wp2_with fail
          go_quiet (fail)
          go_wp2_with fail
          go_ret
          exact ⟨ret_bool HD.out.symm, (by first | exact ⟨_, rfl⟩ | exact ex_drewN)⟩
      · obtain rfl : k = x.length := by omega
        have HD : Hid (decide (x = y) = true) := Lib.hid (decide_eq_true (getD_ext HL.out HZ.out))
        go_wp2_with fail
        go_ret
        exact ⟨ret_bool HD.out.symm, (by first | exact ⟨_, rfl⟩ | exact ex_drewN)⟩
  · have d1 : ((x.length : Int) != (y.length : Int)) = true := by simp; omega
    have d2 : (x.length != y.length) = true := by simp; omega
    have HD : Hid (decide (x = y) = false) := Lib.hid (decide_eq_false fun h => hl (by rw [h]))
    clear hl
    go_enter Try.func27, Try.ntmps27
    go_wp2_with fail
    go_ret
    exact ⟨ret_bool HD.out.symm, 0, rfl⟩
set_option maxRecDepth 100000 in
set_option maxHeartbeats 2000000 in
theorem same26_any (w : World) (va vb : Value) (g1 g2 : Int) (A B : List (List Int)) (ha : Tab w va A) (hb : Tab w vb B) :
    Calls Try.prog 7 #[.agg #[.int .i64 g1, va], .agg #[.int .i64 g2, vb]] w fun e w' => e = .returned (.bool (decide (g1 = g2 ∧ A = B))) ∧ Below w.heap.size w w' := by
  obtain ⟨A0, ca, rfl, ha1, ha2, ha3⟩ := ha.open_
  obtain ⟨B0, cb, rfl, hb1, hb2, hb3⟩ := hb.open_
  have hbel : Below w.heap.size w ((w.alloc (.cells #[.int .i64 g1, .slice A0 A.length ca] 27)).alloc (.cells #[.int .i64 g2, .slice B0 B.length cb] 27)) := ((Below.refl _ _).alloc (Nat.le_refl _) _).alloc (by simp) _
  have hn1 : ((w.alloc (.cells #[.int .i64 g1, .slice A0 A.length ca] 27)).alloc (.cells #[.int .i64 g2, .slice B0 B.length cb] 27)).heap[w.heap.size]? = some (.cells #[.int .i64 g1, .slice A0 A.length ca] 27 (0, 0)) := (Below.heap_alloc (w.alloc _) _ w.heap.size (by simp)).trans (heap_alloc_new w _)
  have hn2 : ((w.alloc (.cells #[.int .i64 g1, .slice A0 A.length ca] 27)).alloc (.cells #[.int .i64 g2, .slice B0 B.length cb] 27)).heap[w.heap.size + 1]? = some (.cells #[.int .i64 g2, .slice B0 B.length cb] 27 (0, 0)) := by
    have := heap_alloc_new (w.alloc (.cells #[.int .i64 g1, .slice A0 A.length ca] 27)) (.cells #[.int .i64 g2, .slice B0 B.length cb] 27); rwa [World.size_alloc] at this
  obtain ⟨p0, p1⟩ := cell_of2 hn1
  obtain ⟨q0, q1⟩ := cell_of2 hn2
  have HA := Lib.hid ha3
  have HB := Lib.hid hb3
  have HBE := Lib.hid hbel
  have hA0 : (0 : Int) ≤ (A.length : Int) := Int.natCast_nonneg _
  clear ha hb ha3 hb3 hbel hn1 hn2
  by_cases hg : g1 = g2
  · have e1 : (g1 != g2) = false := by simpa using hg
    by_cases hl : A.length = B.length
    · have d1 : ((A.length : Int) != (B.length : Int)) = false := by simp; omega
      have d2 : (A.length != B.length) = false := by simp; omega
      have HL := Lib.hid hl
      have HG := Lib.hid hg
      clear hl hg
      go_enter Try.func7, Try.ntmps7
      go_wp2_with fail
      generalize hw0 : (w.alloc (.cells #[.int .i64 g1, .slice A0 A.length ca] 27)).alloc (.cells #[.int .i64 g2, .slice B0 B.length cb] 27) = w0 at *
      clear hw0
      go_loopw [5] (fun i wr => ∃ k : Nat, k ≤ A.length ∧ i = .int .i64 k ∧ Hid (∀ j, j < k → A.getD j [] = B.getD j []) ∧ ∃ q, wr = w0.drewN q) (fun i _ => A.length - (intOf i).toNat)
      case atStart => exact ⟨0, Nat.zero_le _, rfl, Lib.hid fun j hj => absurd hj (by omega), 0, rfl⟩
      case round =>
        obtain ⟨k, hk, rfl, HZ, q, rfl⟩ := hrel
        by_cases hlt : k < A.length
        · obtain ⟨b1, o1, rfl, hc1⟩ := HA.out (by omega)
          obtain ⟨b2, o2, rfl, hc2⟩ := HB.out (by rw [← HL.out]; omega)
          obtain ⟨u1, hu1, hr1⟩ := hc1 k hlt
          obtain ⟨u2, hu2, hr2⟩ := hc2 k (by rw [← HL.out]; omega)
          have hz1 := (HBE.out.cell (p := ⟨b1, o1 + k, none⟩) (World.block_lt_of_cell? w _ hu1)).trans hu1
          have hz2 := (HBE.out.cell (p := ⟨b2, o2 + k, none⟩) (World.block_lt_of_cell? w _ hu2)).trans hu2
          have hi1 := hr1.below HBE.out
          have hi2 := hr2.below HBE.out
          have hk0 : (0 : Int) ≤ (k : Int) := Int.natCast_nonneg _
          have hkb : (k : Int) < (B.length : Int) := by rw [← HL.out]; omega
          have hka : (k : Int) < (A.length : Int) := by omega
          have HEQ : Hid (∀ n, Calls Try.prog 27 #[u1, u2] (w0.drewN n) fun e w' => e = .returned (.bool (decide (A.getD k [] = B.getD k []))) ∧ ∃ q, w' = (w0.drewN n).drewN q) := Lib.hid fun n => equal80_any _ _ _ _ _ (hi1.drewN n) (hi2.drewN n)
          have HN : Hid (A.getD k [] ≠ B.getD k [] → A ≠ B) := Lib.hid (fun h => getD_ne (A := A) (B := B) (d := []) (k := k) h)
          have HK : Hid (A.getD k [] = B.getD k [] → ∀ j, j < k + 1 → A.getD j [] = B.getD j []) := Lib.hid (fun h => all_succ HZ.out h)
          obtain ⟨A3, c3, rfl, -, -, -⟩ := hr1.open_
          obtain ⟨A4, c4, rfl, -, -, -⟩ := hr2.open_
          clear hc1 hc2 hr1 hr2 hu1 hu2 hi1 hi2
          generalize A.getD k [] = x at *
          generalize B.getD k [] = y at *
          by_cases hxy : x = y
          · have HE : Hid (decide (x = y) = true) := Lib.hid (decide_eq_true hxy)
            have HK2 := Lib.hid (HK.out hxy)
            rw [HE.out] at HEQ
            clear hxy HN HK
            go_wp2_with fail
            go_quiet ((go_at_call 27; exact quiet_add_ex (HEQ.out _)))
            go_wp2_with fail
            go_roundw
            case rel => exact ⟨k + 1, by omega, by go_num, HK2, (by first | exact ⟨_, rfl⟩ | exact ex_drewN)⟩
            case measure => simp [intOf]; omega
          · have HE : Hid (decide (x = y) = false) := Lib.hid (decide_eq_false hxy)
            have HD : Hid (decide (g1 = g2 ∧ A = B) = false) := Lib.hid (decide_eq_false fun h => HN.out hxy h.2)
            rw [HE.out] at HEQ
            clear hxy HN HK
            go_wp2_with fail
            go_quiet ((go_at_call 27; exact quiet_add_ex (HEQ.out _)))
            go_wp2_with fail
            go_ret
            exact ⟨ret_bool HD.out.symm, below_drewN (below_drewN HBE.out _) _⟩
        · obtain rfl : k = A.length := by omega
          have HD : Hid (decide (g1 = g2 ∧ A = B) = true) := Lib.hid (decide_eq_true ⟨HG.out, getD_ext HL.out HZ.out⟩)
          go_wp2_with fail
          go_ret
          exact ⟨ret_bool HD.out.symm, below_drewN HBE.out _⟩
    · have d1 : ((A.length : Int) != (B.length : Int)) = true := by simp; omega
      have d2 : (A.length != B.length) = true := by simp; omega
      have HD : Hid (decide (g1 = g2 ∧ A = B) = false) := Lib.hid (decide_eq_false fun h => hl (by rw [h.2]))
      clear hl hg
      go_enter Try.func7, Try.ntmps7
      go_wp2_with fail
      go_ret
      exact ⟨ret_bool HD.out.symm, HBE.out⟩
  · have e1 : (g1 != g2) = true := by simpa using hg
    have HD : Hid (decide (g1 = g2 ∧ A = B) = false) := Lib.hid (decide_eq_false fun h => hg h.1)
    clear hg
    go_enter Try.func7, Try.ntmps7
    go_wp2_with fail
    go_ret
    exact ⟨ret_bool HD.out.symm, HBE.out⟩
end Go.Proofs
namespace Go.Proofs
open Go.RowKit Go.Shelf Go.Proofs.Ct Go.Maps
/-- The frame but for the slots dm 0, .., dm (N-1). -/
structure SameM (a0 : Act) (dm : Nat → Nat) (N : Nat) (a : Act) : Prop where
  size : a.tmps.size = a0.tmps.size
  defers : a.defers = a0.defers
  out : ∀ t, (∀ i, i < N → dm i ≠ t) → a.tmps.getD t undef = a0.tmps.getD t undef
theorem SameM.refl (a0 : Act) (dm : Nat → Nat) (N : Nat) : SameM a0 dm N a0 := ⟨rfl, rfl, fun _ _ => rfl⟩
theorem SameM.put {a0 a : Act} {dm : Nat → Nat} {N i : Nat} (h : SameM a0 dm N a) (hi : i < N) (v : Value) : SameM a0 dm N (a.put (some (dm i)) v) :=
  ⟨by simpa [Act.put] using h.size, h.defers, fun t ht => by rw [← h.out t ht, put_getD_ne _ _ _ _ (ht i hi)]⟩
/-- Every edge leads back; each of the first N operations has a successor up to N. -/
structure Tailed1 (ops : Array Oper) (N : Nat) : Prop where
  size : ops.size = N + 1
  lex : ∀ (i : Nat) (o : Oper), ops[i]? = some o → ∀ e ∈ o.after.toList, e.on < i
  succ : ∀ i, i < N → ∃ (j : Nat) (o : Oper), i < j ∧ j ≤ N ∧ ops[j]? = some o ∧ ∃ e ∈ o.after.toList, e.on = i ∧ Region.binds .any e = true
section
variable {F : Fence} {n : Nat} {P : Program} {ops : Array Oper} {Q : Exit → Act → World → Prop}
theorem Tailed1.before {N : Nat} (ht : Tailed1 ops N) {listed : Array Bool} (hc : Closed ops listed) {o : Oper} (ho : ops[N]? = some o) (hp : ∀ e ∈ o.after.toList, Region.binds .any e = true → listed.getD e.on false = true) :
    ∀ k i, i < N → N - i ≤ k → listed.getD i false = true := by
  intro k
  induction k with
  | zero => intro i hi hk; omega
  | succ k ih =>
    intro i hi hk
    obtain ⟨j, oj, hij, hjN, hoj, e, he, rfl, hb⟩ := ht.succ i hi
    rcases Nat.lt_or_ge j N with h | h
    · exact hc j oj hoj (ih j h (by omega)) e he hb
    · have : j = N := by omega
      subst this
      rw [ho] at hoj
      cases hoj
      exact hp e he hb
end
section
variable {n : Nat} {ops : Array Oper} {Q : Exit → Act → World → Prop} {i : Nat} {o : Oper} {K : Act → World → Prop} {a : Act} {w : World}
end
theorem SameM.frame {a0 a : Act} {dm : Nat → Nat} {N : Nat} (h : SameM a0 dm N a) (n : Nat) (hn : a0.tmps.size = n) :
    a = { tmps := ((List.range n).map fun t => if (List.range N).any (fun i => dm i == t) then a.tmps.getD t undef else a0.tmps.getD t undef).toArray, defers := a0.defers } := by
  obtain ⟨t, d⟩ := a
  have hd := h.defers
  have hs := h.size
  have ho := h.out
  simp only at hd hs ho
  subst hd
  congr 1
  apply Array.ext'
  apply List.ext_getElem?
  intro i
  show t.toList[i]? = (List.map _ (List.range n))[i]?
  rw [List.getElem?_map]
  rcases Nat.lt_or_ge i n with hi | hi
  · rw [List.getElem?_range hi]
    have hti : i < t.size := by omega
    simp only [Option.map_some]
    have hg : t.toList[i]? = some (t.getD i undef) := by simp [Array.getD_eq_getD_getElem?, hti]
    rw [hg]
    refine congrArg some ?_
    by_cases hx : (List.range N).any (fun q => dm q == i) = true
    · rw [if_pos hx]
    · rw [if_neg hx]
      refine ho i (fun j hj e => hx ?_)
      rw [List.any_eq_true]
      exact ⟨j, by simpa using hj, by simpa using e⟩
  · rw [List.getElem?_eq_none (by simpa using (by omega : t.size ≤ i)), List.getElem?_eq_none (by simpa using hi)]
    rfl
section
variable {o : Oper} {a : Act} {w w' : World} {n : Nat} {next : Act → World → Prop} {Q : Exit → Act → World → Prop} {v : Value}
theorem wpW_val (hrun : (execOp a.eval o).run Try.prog w = .ok (.value v) w') (h : next (a.put o.dst v) w') : o.wpIn Fence.wide n Try.prog a w next Q :=
  ⟨fun _ _ => trivial, by rw [Fence.wide_round, Oper.semAt_none, hrun]; exact h⟩
theorem wpW_call {f : FuncId} {args : Array Value} {R : Value → World → Prop} (hrun : (execOp a.eval o).run Try.prog w = .ok (.enter f args) w')
    (hc : Calls Try.prog f args w' fun e w'' => ∃ v, e = .returned v ∧ R v w'') (h : ∀ v w'', R v w'' → next (a.put o.dst v) w'') : o.wpIn Fence.wide n Try.prog a w next Q :=
  ⟨fun _ _ => trivial, by
    rw [Fence.wide_round, Oper.semAt_none, hrun]
    refine ⟨fun hh => by simp [Fence.wide] at hh, callsIn_wide.2 (hc.mono ?_)⟩
    rintro e w'' ⟨v, rfl, hR⟩
    exact h v w'' hR⟩
end
end Go.Proofs
