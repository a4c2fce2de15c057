/- WordsOf; power; the words of a law; The program's Images; The walk of CosetKnown; Words of the call's own, by blocks; results of a presentation and a number; The walk of Known, cases 0 to 6. -/
import Derived.Test.YtmpnengjboabcaaFtCS12
import Derived.Test.YtmpnengjboabcaaFtCS5
import Derived.Test.YtmpnengjboabcaaFtCS1
import Derived.Test.YtmpnengjboabcaaFtCS6
import Derived.Test.YtmpnengjboabcaaFtCS7
namespace Go.Proofs
open Go.RowKit Go.Shelf Go.Proofs.Ct Go.Maps
theorem under24e : Try.prog.underlying 24 = some (.slice (Try.prog.elem 24)) := by kernel_rfl
theorem r_slice_lo {o : Oper} {a : Act} {w : World} (x y : Operand) (A : Option Addr) (n c k : Nat) (ho : o.op = .slice 24 x (some y) none none) (hx : a.eval x = .slice A n c) (hy : a.eval y = .int .i64 (k : Int)) (hk : k ≤ n) : (execOp a.eval o).run Try.prog w = .ok (.value (sliced A k n c 1)) w := by
  have hu := under24e
  have hs : (sizeOf (Try.prog.elem 24)).run Try.prog w = .ok 1 w := by kernel_rfl
  unfold execOp
  simp only [ho, hx, hy, Option.map_none, Option.map_some, Sem.run_bind, run_sliceAt_slice w 24 _ _ _ _ hu, run_slice_l w 24 A n c hu .i64 (k : Int) (by omega) (by omega)]
  simp [hs]
theorem r_slice_lohi {o : Oper} {a : Act} {w : World} (x y z : Operand) (A : Option Addr) (n c k h : Nat) (ho : o.op = .slice 24 x (some y) (some z) none) (hx : a.eval x = .slice A n c) (hy : a.eval y = .int .i64 (k : Int)) (hz : a.eval z = .int .i64 (h : Int)) (hk : k ≤ h) (hc : h ≤ c) : (execOp a.eval o).run Try.prog w = .ok (.value (sliced A k h c 1)) w := by
  have hu := under24e
  have hs : (sizeOf (Try.prog.elem 24)).run Try.prog w = .ok 1 w := by kernel_rfl
  unfold execOp
  simp only [ho, hx, hy, hz, Option.map_none, Option.map_some, Sem.run_bind, run_sliceAt_slice w 24 _ _ _ _ hu, run_slice_lh w 24 A n c hu .i64 .i64 (k : Int) (h : Int) (by omega) (by omega) (by omega)]
  simp [hs]
theorem ints_sliced {w : World} {A : Option Addr} {c k h : Nat} {l : List Int} (hI : IntsAt w (.slice A l.length c) l) (hk : k ≤ h) (hh : h ≤ l.length) : ∃ A', sliced A k h c 1 = .slice A' (h - k) (c - k) ∧ IntsAt w (.slice A' (h - k) (c - k)) ((l.take h).drop k) := by
  obtain ⟨⟨A0, n, cap, e, h1, h2, h3, h4⟩, hf⟩ := hI
  obtain ⟨rfl, rfl, rfl⟩ := Value.slice.inj e
  refine ⟨_, rfl, ⟨_, _, _, rfl, by simp [ints]; omega, by omega, by omega, fun hp => ?_⟩, fun y hy => hf y (List.mem_of_mem_take (List.mem_of_mem_drop hy))⟩
  obtain ⟨b, off, rfl, hr⟩ := h4 (by omega)
  refine ⟨b, off + k, ?_, fun j v hj => ?_⟩
  · rw [if_neg (by omega), Nat.mul_one]
    exact congrArg some (Addr.add_mid b off k)
  · have hj' : (ints l)[k + j]? = some v := by
      simp only [ints, List.getElem?_map, List.getElem?_drop, List.getElem?_take] at hj ⊢
      split at hj
      · exact hj
      · simp at hj
    have := hr (k + j) v hj'
    rwa [show off + k + j = off + (k + j) by omega]
def wordsTo (g most : Nat) : Nat → List Int → List W
  | 0, _ => []
  | _ + 1, [] => []
  | f + 1, x :: l => wordOf g (l.take (min (x % ((most + 1 : Nat) : Int)).toNat l.length)) :: wordsTo g most f (l.drop (min (x % ((most + 1 : Nat) : Int)).toNat l.length))
def wordsOf (g most : Nat) (l : List Int) : List W := wordsTo g most l.length l
theorem wordsTo_nil (g most f : Nat) : wordsTo g most f [] = [] := by cases f <;> rfl
theorem fits_wordOf {g : Nat} (hg : 1 ≤ g ∧ g ≤ 400) (l : List Int) : Fits (wordOf g l) := fun x hx => by
  obtain ⟨y, -, rfl⟩ := List.mem_map.1 hx
  have h1 := Int.emod_nonneg y (show ((2 * g : Nat) : Int) ≠ 0 by omega)
  have h2 := Int.emod_lt_of_pos y (show (0 : Int) < ((2 * g : Nat) : Int) by omega)
  have := letter_bd (c := (y % ((2 * g : Nat) : Int)).toNat) (by omega)
  omega
theorem r_min2 {o : Oper} {a : Act} {w : World} (x y : Operand) (i j z : Int) (ho : o.op = .call { callee := .builtin .min, args := #[x, y], argTypes := #[3, 3] }) (hx : a.eval x = .int .i64 i) (hy : a.eval y = .int .i64 j) (hz : z = min i j) : (execOp a.eval o).run Try.prog w = .ok (.value (.int .i64 z)) w := by
  have e : (if j < i then j else i) = z := by rw [hz]; split <;> omega
  unfold execOp
  simp only [ho, resolve, invoke, builtin, Sem.run_bind, Sem.run_pure, Result.andThen_ok, List.map_toArray, List.map_cons, List.map_nil, hx, hy, run_min_int2, e]
def WordsPost (x : List W) (w : World) (e : Ending) (w' : World) : Prop := (∃ A c, e = .returned (.slice A x.length c) ∧ TabB w.heap.size w' (.slice A x.length c) x) ∧ Below w.heap.size w w'
set_option maxRecDepth 100000 in
set_option maxHeartbeats 2000000 in
theorem wordsOf111_any (w : World) (v : Value) (l : List Int) (g most : Nat) (h : IntsAt w v l) (hg : 1 ≤ g ∧ g ≤ 400) (hm : most ≤ 1000) (hl : l.length ≤ 100000) : Calls Try.prog 135 #[v, .int .i64 (g : Int), .int .i64 (most : Int)] w (WordsPost (wordsOf g most l) w) := by
  obtain ⟨A, c, rfl, h1, h2, h3⟩ := h.open_
  have HI := Lib.hid h
  have hot := OutSt.nil 25 (Below.refl w.heap.size w)
  have HOT := Lib.hid hot
  have hg0 : (0 : Int) ≤ (g : Int) := Int.natCast_nonneg _
  have hm0 : (0 : Int) ≤ (most : Int) := Int.natCast_nonneg _
  have hm1 : (most : Int) ≤ 1000 := by omega
  have HW0 : Hid (wordsOf g most l = [] ++ wordsTo g most l.length l) := Lib.hid rfl
  unfold WordsPost
  generalize hX : wordsOf g most l = X at *
  have hln : l.length + 0 ≤ 100000 := by omega
  clear h h3 hot hX
  go_enter Try.func135, Try.ntmps135
  go_wp2_with fail
  go_loopw [0, 7] (fun sl so wr => ∃ (l2 : List Int) (f m : Nat), (∃ A c, sl = .slice A l2.length c ∧ c ≤ 9223372036854775807 ∧ Hid (IntsAt w (.slice A l2.length c) l2)) ∧ l2.length ≤ f ∧ l2.length + m ≤ 100000 ∧ ∃ F A c, so = .slice A m c ∧ ∃ rows, Hid (OutSt 25 F w wr (.slice A m c) rows) ∧ Hid (rows.length = m) ∧ Hid (X = rows ++ wordsTo g most f l2)) (fun sl _ _ => match sl with | .slice _ n _ => n | _ => 0)
  case atStart => exact ⟨l, l.length, 0, ⟨_, _, rfl, h2, HI⟩, Nat.le_refl _, hln, _, none, 0, rfl, [], HOT, Lib.hid rfl, HW0⟩
  case round =>
    clear HOT HI HW0
    obtain ⟨l2, f, m, ⟨A1, c1, rfl, hc1, HI⟩, hf, hlm, F, A2, c2, rfl, rows, HS, HRL, HX⟩ := hrel
    cases l2 with
    | nil =>
      have HE : Hid (rows = X) := Lib.hid (by have := HX.out; rw [wordsTo_nil, List.append_nil] at this; exact this.symm)
      have HT : Hid (∃ A c, Ending.returned (.slice A2 m c2) = .returned (.slice A X.length c) ∧ TabB w.heap.size wr (.slice A X.length c) X) := Lib.hid (by
        have h1 := HS.out.tabB
        rw [← HE.out, HRL.out]
        exact ⟨_, _, rfl, h1⟩)
      have HB := Lib.hid HS.out.below
      have hlen : (([] : List Int).length : Int) = 0 := rfl
      go_wp2_with fail
      go_ret
      exact ⟨HT.out, HB.out⟩
    | cons x l3 =>
      cases f with
      | zero => simp at hf
      | succ f =>
        have hTN : x % ((most + 1 : Nat) : Int) = ((x % ((most + 1 : Nat) : Int)).toNat : Int) := (Int.toNat_of_nonneg (Int.emod_nonneg x (by omega))).symm
        have hTB := Int.emod_lt_of_pos x (show (0 : Int) < ((most + 1 : Nat) : Int) by omega)
        have HTN : Hid (∀ W, Calls Try.prog 67 #[.int .i64 x, .int .i64 ((most : Int) + 1)] W fun e w' => e = .returned (.int .i64 ((x % ((most + 1 : Nat) : Int)).toNat : Int)) ∧ w' = W) := Lib.hid fun W => by
          rw [← hTN, show (most : Int) + 1 = ((most + 1 : Nat) : Int) by omega]
          exact turn59_any W x (most + 1) (by omega)
        have hstep : wordsTo g most (f + 1) (x :: l3) = wordOf g (l3.take (min (x % ((most + 1 : Nat) : Int)).toNat l3.length)) :: wordsTo g most f (l3.drop (min (x % ((most + 1 : Nat) : Int)).toNat l3.length)) := rfl
        have HX1 : Hid (X = rows ++ (wordOf g (l3.take (min (x % ((most + 1 : Nat) : Int)).toNat l3.length)) :: wordsTo g most f (l3.drop (min (x % ((most + 1 : Nat) : Int)).toNat l3.length)))) := Lib.hid (by rw [← hstep]; exact HX.out)
        generalize htz : (x % ((most + 1 : Nat) : Int)).toNat = tz at *
        have htm : tz ≤ most := by omega
        clear htz hTN hTB hstep HX
        have hll : (x :: l3).length = l3.length + 1 := rfl
        rw [hll] at HI hlm hf
        obtain ⟨n, hn⟩ : ∃ n, n = min tz l3.length := ⟨_, rfl⟩
        rw [← hn] at HX1
        have hnl : n ≤ l3.length := by omega
        have HN : Hid ((n : Int) = min (tz : Int) (l3.length : Int)) := Lib.hid (by omega)
        clear hn
        have hI : IntsAt w (.slice A1 (x :: l3).length c1) (x :: l3) := HI.out
        obtain ⟨A9, c9, e9, hq1, hq2, hq3⟩ := hI.open_
        obtain ⟨rfl, -, rfl⟩ := Value.slice.inj e9
        obtain ⟨b, o, rfl, hcc⟩ := hq3 (by simp)
        have hx0 := hcc 0 (by simp)
        have hxc := (HS.out.below.cell (p := ⟨b, o + 0, none⟩) (World.block_lt_of_cell? w _ hx0)).trans hx0
        have hxc' : wr.cell? ⟨b, o, none⟩ = some (.int .i64 x) := hxc
        obtain ⟨A3, hs1, hi1⟩ := ints_sliced (k := 1) (h := 1 + n) hI (by omega) (by simp; omega)
        obtain ⟨A4, hs2, hi2⟩ := ints_sliced (k := 1 + n) (h := l3.length + 1) hI (by omega) (by simp)
        have e1 : ((x :: l3).take (1 + n)).drop 1 = l3.take n := by rw [Nat.add_comm]; rfl
        have e2 : ((x :: l3).take (l3.length + 1)).drop (1 + n) = l3.drop n := by
          rw [show l3.length + 1 = (x :: l3).length from rfl, List.take_length, Nat.add_comm]; rfl
        have e3 : l3.length + 1 - (1 + n) = (l3.drop n).length := by rw [List.length_drop]; omega
        have e4 : 1 + n - 1 = n := by omega
        rw [e1] at hi1
        rw [e2, e3] at hi2
        rw [e4] at hi1 hs1
        rw [e3] at hs2
        have hcl : l3.length + 1 ≤ c1 := hq1
        have HI2 := Lib.hid hi2
        have HWO : Hid (Calls Try.prog 47 #[.slice A3 n (c1 - 1), .int .i64 (g : Int)] wr (WordPost (wordOf g (l3.take n)) wr)) := Lib.hid (wordOf39_any wr _ (l3.take n) g (kept_ints.below hi1 HS.out.below) (by omega) (by rw [List.length_take]; omega))
        have HFW := Lib.hid (fits_wordOf hg (l3.take n))
        have HL4 : Hid ((l3.drop n).length ≤ l3.length) := Lib.hid (by rw [List.length_drop]; omega)
        unfold WordPost at HWO
        generalize l3.take n = l5 at *
        generalize l3.drop n = l4 at *
        generalize wordOf g l5 = wd at *
        have hn0 : (0 : Int) ≤ (n : Int) := Int.natCast_nonneg _
        have hnI : (n : Int) ≤ (l3.length : Int) := by omega
        have hlI : (l3.length : Int) ≤ 100000 := by omega
        have htI : (tz : Int) ≤ 1000 := by omega
        have ht0 : (0 : Int) ≤ (tz : Int) := Int.natCast_nonneg _
        clear hcc hx0 hxc hi1 hi2 e1 e2 e4 hI e9 hq3 hll HI
        go_wp2_with (first
          | (go_at_call 67; (refine (HTN.out _).mono ?_); rintro e w1 ⟨rfl, rfl⟩)
          | ((with_reducible refine wpList_sel 21 ?_); refine wpList_val rfl (r_min2 (.tmp 17) (.tmp 20) _ _ (n : Int) rfl rfl rfl (by have := HN.out; omega)) ?_)
          | ((with_reducible refine wpList_sel 26 ?_); refine wpList_val rfl (r_slice_lohi (.tmp 23) (.const (.int .i64 1)) (.tmp 25) _ (l3.length + 1) c1 1 (1 + n) rfl rfl rfl rfl (by omega) (by omega)) ?_; rw [hs1])
          | (go_at_call 47; (refine HWO.out.mono ?_); rintro e w2 ⟨A5, c5, rfl, ho, hb⟩
             obtain ⟨A8, c8, w8, hr8, hS8⟩ := (HS.out.with_row hb ho).done (by decide) Try.underlying31 info25p HFW.out (by rw [HRL.out]; omega)
             rw [HRL.out] at hr8 hS8
             have HR8 := Lib.hid hr8
             have HS8 := Lib.hid hS8
             clear hr8 hS8 ho hb)
          | ((with_reducible refine wpList_sel 30 ?_); refine wpList_val rfl (r_app (.tmp 22) (.tmp 29) 31 rfl rfl rfl HR8.out) ?_)
          | ((with_reducible refine wpList_sel 34 ?_); refine wpList_val rfl (r_slice_lo (.tmp 31) (.tmp 33) _ (l3.length + 1) c1 (1 + n) rfl rfl rfl (by omega)) ?_; rw [show sliced (some ⟨b, o, none⟩) (1 + n) (l3.length + 1) c1 1 = _ from hs2]))
        go_roundw
        case rel => exact ⟨l4, f, m + 1, ⟨_, _, rfl, by omega, HI2⟩, by have := HL4.out; omega, by have := HL4.out; omega, _, _, _, rfl, rows ++ [wd], HS8, Lib.hid (by rw [List.length_append, HRL.out]; rfl), Lib.hid (by rw [HX1.out, List.append_assoc]; rfl)⟩
        case measure => have := HL4.out; simp; omega
end Go.Proofs
namespace Go.Proofs
open Go.RowKit Go.Shelf Go.Proofs.Ct Go.Maps
theorem tab_sliced {w : World} {A : Option Addr} {c h : Nat} {l : List W} (hT : Tab w (.slice A l.length c) l) (hh : h ≤ l.length) : ∃ A', sliced A 0 h c 1 = .slice A' h c ∧ Tab w (.slice A' h c) (l.take h) := by
  obtain ⟨vs, ⟨A0, n, cap, e, h1, h2, h3, h4⟩, hl, hr⟩ := hT
  obtain ⟨rfl, rfl, rfl⟩ := Value.slice.inj e
  refine ⟨_, rfl, vs.take h, ⟨_, h, c, rfl, by rw [List.length_take]; omega, by omega, h3, fun hp => ?_⟩, by rw [List.length_take, List.length_take]; omega, fun i hi => ?_⟩
  · obtain ⟨b, off, rfl, hr'⟩ := h4 (by omega)
    refine ⟨b, off, ?_, fun j v hj => hr' j v ?_⟩
    · rw [if_neg (by omega)]
      exact congrArg some (Addr.add_mid b off 0)
    · rw [List.getElem?_take] at hj
      split at hj
      · exact hj
      · cases hj
  · rw [List.length_take] at hi
    obtain ⟨u, hu, hx⟩ := hr i (by omega)
    refine ⟨u, by rw [List.getElem?_take, if_pos (by omega)]; exact hu, ?_⟩
    have : (l.take h).getD i [] = l.getD i [] := by
      rw [List.getD_eq_getElem?_getD, List.getElem?_take, if_pos (by omega), List.getD_eq_getElem?_getD]
    rw [this]
    exact hx
theorem tabB_sliced {base : Nat} {w : World} {A : Option Addr} {c h : Nat} {l : List W} (hT : TabB base w (.slice A l.length c) l) (hh : h ≤ l.length) : ∃ A', sliced A 0 h c 1 = .slice A' h c ∧ TabB base w (.slice A' h c) (l.take h) :=
  ⟨_, rfl, fun w' hw => by
    obtain ⟨A', e, ht⟩ := tab_sliced (hT w' hw) hh
    show Tab w' (sliced A 0 h c 1) _
    rw [e]
    exact ht⟩
def powW (x : List Int) : Nat → List Int
  | 0 => []
  | n + 1 => powW x n ++ x
theorem length_powW (x : List Int) : ∀ n, (powW x n).length = n * x.length
  | 0 => by simp [powW]
  | n + 1 => by rw [powW, List.length_append, length_powW x n, Nat.succ_mul]
set_option maxRecDepth 100000 in
set_option maxHeartbeats 1000000 in
theorem power112_any (w : World) (v : Value) (x : List Int) (n : Nat) (h : IntsAt w v x) (hn : n ≤ 1000) (hx : x.length ≤ 100) : Calls Try.prog 136 #[v, .int .i64 (n : Int)] w (WordPost (powW x n) w) := by
  obtain ⟨A, c, rfl, h1, h2, -⟩ := h.open_
  have HI := Lib.hid h
  have h0 : OwnI w.heap.size w (.slice none 0 0) [] := World.ownsRow_nil _ _ _ _
  have H0 : Hid (OwnI w.heap.size w (.slice none (powW x 0).length 0) (powW x 0)) := Lib.hid h0
  have hn0 : (0 : Int) ≤ (n : Int) := Int.natCast_nonneg _
  have hn1 : (n : Int) ≤ 1000 := by omega
  have HLN : Hid (∀ k, k ≤ n → (powW x k).length ≤ 100000) := Lib.hid fun k hk => by
    rw [length_powW]
    exact Nat.le_trans (Nat.mul_le_mul (Nat.le_trans hk hn) hx) (by omega)
  have HXL := Lib.hid hx
  clear h h0 hx
  unfold WordPost
  go_enter Try.func136, Try.ntmps136
  go_wp2_with fail
  go_loopw [5, 6] (fun so i wr => ∃ k : Nat, i = .int .i64 k ∧ k ≤ n ∧ ∃ m A c, so = .slice A m c ∧ Hid (m = (powW x k).length) ∧ Hid (OwnI w.heap.size wr (.slice A m c) (powW x k)) ∧ Hid (Below w.heap.size w wr)) (fun _ i _ => n - (intOf i).toNat)
  case atStart => exact ⟨0, rfl, by omega, 0, none, 0, rfl, Lib.hid rfl, H0, Lib.hid (Below.refl _ _)⟩
  case round =>
    clear H0
    obtain ⟨k, rfl, hk, m, A2, c2, rfl, HM, HO, HB⟩ := hrel
    have hk0 : (0 : Int) ≤ (k : Int) := Int.natCast_nonneg _
    by_cases hlt : k < n
    · have hlt' : (k : Int) < (n : Int) := by omega
      obtain ⟨A', c', w', hr, ho, hg, -⟩ := run_append_ints 25 25 Try.underlying25 wr w.heap.size _ _ (powW x k) x HO.out (kept_ints.below HI.out HB.out) (by have := HLN.out k hk; omega) (by have := HXL.out; omega) HB.out.size
      have HR := Lib.hid hr
      have HO' : Hid (OwnI w.heap.size w' (.slice A' (powW x k ++ x).length c') (powW x (k + 1))) := Lib.hid ho
      have HB' : Hid (Below w.heap.size w w') := Lib.hid (HB.out.grown hg HB.out.size fun r hr => (owns_block HO.out r hr).1)
      have HM' : Hid ((powW x k ++ x).length = (powW x (k + 1)).length) := Lib.hid rfl
      clear hr ho hg
      generalize (powW x k ++ x).length = m' at *
      go_wp2_with ((with_reducible refine wpList_sel 14 ?_); refine wpList_val rfl (r_app (.tmp 12) (.tmp 13) 25 rfl rfl rfl HR.out) ?_)
      go_roundw
      case rel => exact ⟨k + 1, by go_num, by omega, _, _, _, rfl, HM', HO', HB'⟩
      case measure => simp [intOf]; omega
    · obtain rfl : k = n := by omega
      have HE : Hid (∃ A c, Ending.returned (.slice A2 m c2) = .returned (.slice A (powW x k).length c) ∧ OwnI w.heap.size wr (.slice A (powW x k).length c) (powW x k) ∧ Below w.heap.size w wr) := Lib.hid ⟨A2, c2, by rw [← HM.out], by rw [← HM.out]; exact HO.out, HB.out⟩
      go_wp2_with fail
      go_ret
      exact HE.out
theorem r_slice_hi31 {o : Oper} {a : Act} {w : World} (x y : Operand) (A : Option Addr) (n c h : Nat) (ho : o.op = .slice 31 x none (some y) none) (hx : a.eval x = .slice A n c) (hy : a.eval y = .int .i64 (h : Int)) (hc : h ≤ c) : (execOp a.eval o).run Try.prog w = .ok (.value (sliced A 0 h c 1)) w := by
  have hu : Try.prog.underlying 31 = some (.slice (Try.prog.elem 31)) := by kernel_rfl
  have hs : (sizeOf (Try.prog.elem 31)).run Try.prog w = .ok 1 w := by kernel_rfl
  unfold execOp
  simp only [ho, hx, hy, Option.map_none, Option.map_some, Sem.run_bind, run_sliceAt_slice w 31 _ _ _ _ hu, run_slice_h w 31 A n c hu .i64 (h : Int) (by omega) (by omega)]
  simp [hs]
def lawWords (g m : Nat) (l : List Int) : List W := (wordsOf g 12 l).take m
def LawWordsPost (x : List W) (w : World) (e : Ending) (w' : World) : Prop := (∃ A c, e = .returned (.slice A x.length c) ∧ TabB w.heap.size w' (.slice A x.length c) x) ∧ Below w.heap.size w w'
theorem wordsTo_length (g most : Nat) : ∀ (f : Nat) (l : List Int), (wordsTo g most f l).length ≤ f
  | 0, _ => Nat.le_refl _
  | _ + 1, [] => Nat.zero_le _
  | f + 1, x :: l => by
    rw [wordsTo, List.length_cons]
    have := wordsTo_length g most f (l.drop (min (x % ((most + 1 : Nat) : Int)).toNat l.length))
    omega
end Go.Proofs
namespace Go.Proofs
open Go.RowKit Go.Shelf Go.Proofs.Ct Go.Maps
structure ImgS (w0 wr : World) (B g : Nat) (f : Nat → List Int) (vs : Nat → Value) : Prop where
  below : Below w0.heap.size w0 wr
  ge : w0.heap.size ≤ B
  blk : ∃ C, wr.heap[B]? = some (.cells C 24 (0, 0)) ∧ ∀ c, c < g → C[c]? = some (vs c)
  row : ∀ c, c < g → OwnI w0.heap.size wr (vs c) (f c)
  ap : ∀ c d, c < g → d < g → c ≠ d → ∀ r, (vs c).ownBlock = some r → (vs d).ownBlock ≠ some r
section
variable {w0 wr : World} {B g : Nat} {f : Nat → List Int} {vs : Nat → Value}
end
end Go.Proofs
namespace Go.Proofs
open Go.RowKit Go.Shelf Go.Proofs.Ct Go.Maps
theorem bl3 {a b c : World} (h1 : Below a.heap.size a b) (h2 : Below b.heap.size b c) : Below a.heap.size a c := h1.trans (h2.mono h1.size)
theorem lit1 (w : World) (x : List Int) (hx : Fits x) {n : Nat} (hn : x.length = n) (hm : n ≤ 1000) {e : TypeId} :
    Tab ((w.alloc (.cells (ints x).toArray 3)).alloc (.cells #[.slice (some ⟨w.heap.size, 0, none⟩) n n] e)) (.slice (some ⟨w.heap.size + 1, 0, none⟩) 1 1) [x] := by
  have h1 := ints_lit w x hx n hn hm
  have hb : Below (w.alloc (.cells (ints x).toArray 3)).heap.size (w.alloc (.cells (ints x).toArray 3)) ((w.alloc (.cells (ints x).toArray 3)).alloc (.cells #[.slice (some ⟨w.heap.size, 0, none⟩) n n] e)) := (Below.refl _ _).alloc (Nat.le_refl _) _
  have h2 := heap_alloc_new (w.alloc (.cells (ints x).toArray 3)) (.cells #[.slice (some ⟨w.heap.size, 0, none⟩) n n] e)
  rw [World.size_alloc] at h2
  exact tab_blk (us := [.slice (some ⟨w.heap.size, 0, none⟩) n n]) h2 rfl rfl (by simp) fun i hi => by
    have : i = 0 := by simpa using hi
    subst this
    exact IntsAt.below h1 hb
theorem lit1_below (w : World) (x : List Int) (n : Nat) {e : TypeId} : Below w.heap.size w ((w.alloc (.cells (ints x).toArray 3)).alloc (.cells #[.slice (some ⟨w.heap.size, 0, none⟩) n n] e)) :=
  ((Below.refl _ _).alloc (Nat.le_refl _) _).alloc (by simp) _
theorem lit2 (w : World) (x y : List Int) (hx : Fits x) (hy : Fits y) {n m : Nat} (hn : x.length = n) (hm : y.length = m) (hs : n ≤ 1000 ∧ m ≤ 1000) {e : TypeId} :
    Tab (((w.alloc (.cells (ints x).toArray 3)).alloc (.cells (ints y).toArray 3)).alloc (.cells #[.slice (some ⟨w.heap.size, 0, none⟩) n n, .slice (some ⟨w.heap.size + 1, 0, none⟩) m m] e)) (.slice (some ⟨w.heap.size + 1 + 1, 0, none⟩) 2 2) [x, y] := by
  have h1 := ints_lit w x hx n hn hs.1
  have h2 := ints_lit (w.alloc (.cells (ints x).toArray 3)) y hy m hm hs.2
  have hb1 : Below (w.alloc (.cells (ints x).toArray 3)).heap.size (w.alloc (.cells (ints x).toArray 3)) ((w.alloc (.cells (ints x).toArray 3)).alloc (.cells (ints y).toArray 3)) := (Below.refl _ _).alloc (Nat.le_refl _) _
  have hb2 := (Below.refl _ ((w.alloc (.cells (ints x).toArray 3)).alloc (.cells (ints y).toArray 3))).alloc (Nat.le_refl _) (.cells #[.slice (some ⟨w.heap.size, 0, none⟩) n n, .slice (some ⟨w.heap.size + 1, 0, none⟩) m m] e)
  have h3 := heap_alloc_new ((w.alloc (.cells (ints x).toArray 3)).alloc (.cells (ints y).toArray 3)) (.cells #[.slice (some ⟨w.heap.size, 0, none⟩) n n, .slice (some ⟨w.heap.size + 1, 0, none⟩) m m] e)
  simp only [World.size_alloc] at h2 h3
  exact tab_blk (us := [.slice (some ⟨w.heap.size, 0, none⟩) n n, .slice (some ⟨w.heap.size + 1, 0, none⟩) m m]) h3 rfl rfl (by simp) fun i hi => by
    have : i = 0 ∨ i = 1 := by simp at hi; omega
    rcases this with rfl | rfl
    · exact (h1.below hb1).below hb2
    · exact h2.below hb2
theorem lit2_below (w : World) (x y : List Int) (n m : Nat) {e : TypeId} : Below w.heap.size w (((w.alloc (.cells (ints x).toArray 3)).alloc (.cells (ints y).toArray 3)).alloc (.cells #[.slice (some ⟨w.heap.size, 0, none⟩) n n, .slice (some ⟨w.heap.size + 1, 0, none⟩) m m] e)) :=
  (((Below.refl _ _).alloc (Nat.le_refl _) _).alloc (by simp) _).alloc (by simp; omega) _
theorem lit3 (w : World) (x y z : List Int) (hx : Fits x) (hy : Fits y) (hz : Fits z) {n m l : Nat} (hn : x.length = n) (hm : y.length = m) (hl : z.length = l) (hs : n ≤ 1000 ∧ m ≤ 1000 ∧ l ≤ 1000) {e : TypeId} :
    Tab ((((w.alloc (.cells (ints x).toArray 3)).alloc (.cells (ints y).toArray 3)).alloc (.cells (ints z).toArray 3)).alloc (.cells #[.slice (some ⟨w.heap.size, 0, none⟩) n n, .slice (some ⟨w.heap.size + 1, 0, none⟩) m m, .slice (some ⟨w.heap.size + 1 + 1, 0, none⟩) l l] e)) (.slice (some ⟨w.heap.size + 1 + 1 + 1, 0, none⟩) 3 3) [x, y, z] := by
  have h1 := ints_lit w x hx n hn hs.1
  have h2 := ints_lit (w.alloc (.cells (ints x).toArray 3)) y hy m hm hs.2.1
  have h3 := ints_lit ((w.alloc (.cells (ints x).toArray 3)).alloc (.cells (ints y).toArray 3)) z hz l hl hs.2.2
  have h4 := tab_three _ _ _ _ _ _ _ (h1.below (((Below.refl _ _).alloc (Nat.le_refl _) _).alloc (by simp) _)) (h2.below ((Below.refl _ _).alloc (Nat.le_refl _) _)) h3 (e := e)
  simp only [World.size_alloc] at h4
  exact h4
theorem lit3_below (w : World) (x y z : List Int) (n m l : Nat) {e : TypeId} : Below w.heap.size w ((((w.alloc (.cells (ints x).toArray 3)).alloc (.cells (ints y).toArray 3)).alloc (.cells (ints z).toArray 3)).alloc (.cells #[.slice (some ⟨w.heap.size, 0, none⟩) n n, .slice (some ⟨w.heap.size + 1, 0, none⟩) m m, .slice (some ⟨w.heap.size + 1 + 1, 0, none⟩) l l] e)) :=
  ((((Below.refl _ _).alloc (Nat.le_refl _) _).alloc (by simp) _).alloc (by simp; omega) _).alloc (by simp; omega) _
theorem short_of {l : List W} {m : Nat} (h : (l.all fun x => decide (x.length ≤ m)) = true) : ∀ j, (l.getD j []).length ≤ m := fun j => by
  rcases Nat.lt_or_ge j l.length with hj | hj
  · rw [List.getD_eq_getElem?_getD, List.getElem?_eq_getElem hj]
    exact of_decide_eq_true (List.all_eq_true.1 h _ (List.getElem_mem hj))
  · rw [List.getD_eq_getElem?_getD, List.getElem?_eq_none hj]
    exact Nat.zero_le _
end Go.Proofs
namespace Go.Proofs
open Go.RowKit Go.Shelf Go.Proofs.Ct Go.Maps
def IntsB (base : Nat) (w : World) (u : Value) (x : List Int) : Prop := ∀ w' : World, (∀ k, base ≤ k → k < w.heap.size → w'.heap[k]? = w.heap[k]?) → IntsAt w' u x
section
variable {base : Nat} {w w' : World} {u : Value} {x : List Int}
theorem IntsB.at_ (h : IntsB base w u x) : IntsAt w u x := h w fun _ _ _ => rfl
theorem IntsB.below (h : IntsB base w u x) (hb : Below w.heap.size w w') : IntsB base w' u x := fun w'' h'' => h w'' fun k h1 h2 => (h'' k h1 (Nat.lt_of_lt_of_le h2 hb.size)).trans (hb.block k h2)
theorem IntsB.own {b2 : Nat} (h : OwnI b2 w u x) (hf : Fits x) (hb : base ≤ b2) : IntsB base w u x := fun w' hw => OwnI.ints (owns_keep h fun r hr => by
  obtain ⟨h1, C, hC⟩ := owns_block h r hr
  exact hw r (by omega) (Array.getElem?_eq_some_iff.1 hC).1) hf
theorem IntsB.lit (w : World) (x : List Int) (hf : Fits x) {n : Nat} (hn : x.length = n) (hm : n ≤ 1000) (hb : base ≤ w.heap.size) : IntsB base (w.alloc (.cells (ints x).toArray 3)) (.slice (some ⟨w.heap.size, 0, none⟩) n n) x := fun w' hw =>
  ints_blk ((hw w.heap.size hb (by simp)).trans (heap_alloc_new w _)) hf hn hm
theorem TabB.lit (w : World) (us : List Value) (xs : List W) {e : TypeId} {n : Nat} (hn : us.length = n) (hl : us.length = xs.length) (hm : us.length ≤ 1000) (hb : base ≤ w.heap.size) (h : ∀ i, i < xs.length → IntsB base w (us.getD i undef) (xs.getD i [])) :
    TabB base (w.alloc (.cells us.toArray e)) (.slice (some ⟨w.heap.size, 0, none⟩) n n) xs := fun w' hw =>
  tab_blk ((hw w.heap.size hb (by simp)).trans (heap_alloc_new w _)) hn hl hm fun i hi => (h i hi).below ((Below.refl _ _).alloc (Nat.le_refl _) _) w' hw
end
def knownT : Nat → Int × List W × Int
  | 0 => (1, [powW [1] 7], 7)
  | 1 => (2, [powW [1] 2, powW [2] 2, powW [1, 2] 5], 10)
  | 2 => (2, [powW [1] 2, powW [2] 3, powW [1, 2] 3], 12)
  | 3 => (2, [powW [1] 2, powW [2] 3, powW [1, 2] 4], 24)
  | 4 => (2, [powW [1] 2, powW [2] 3, powW [1, 2] 5], 60)
  | 5 => (2, [powW [1] 4, [1, 1, -2, -2], [-2, 1, 2, 1]], 8)
  | 6 => (2, [powW [1] 3, powW [2] 3, powW [1, 2] 3, powW [1, -2] 3], 27)
  | 7 => (2, [powW [1] 4, powW [2] 6, [-1, -2, 1, 2]], 24)
  | 8 => (3, [powW [1] 2, powW [2] 2, [3, 3], powW [1, 2] 3, powW [2, 3] 3, powW [1, 3] 2], 24)
  | 9 => (2, [powW [1] 2, powW [2] 3, powW [1, 2] 7, powW [-1, -2, 1, 2] 4], 168)
  | 10 => (2, [[-2, 1, 2, -1, -1], [-1, 2, 1, -2, -2]], 1)
  | 11 => (3, [powW [1] 2, powW [2] 2, [3, 3], [-1, -2, 1, 2], [-1, -3, 1, 3], [-2, -3, 2, 3]], 8)
  | 12 => (2, [powW [1] 5, powW [2] 4, [-2, 1, 2, -1, -1]], 20)
  | _ => (2, [powW [1] 7, powW [2] 3, [-2, 1, 2, -1, -1]], 21)
def KnownPost (g : Int) (rels : List W) (n : Int) (w : World) (e : Ending) (w' : World) : Prop := (∃ A c, e = .returned (.tuple #[.agg #[.int .i64 g, .slice A rels.length c], .int .i64 n]) ∧ TabB (w.heap.size + 1) w' (.slice A rels.length c) rels) ∧ Below w.heap.size w w'
theorem powerK (w : World) (v : Value) (x : List Int) (n L : Nat) (h : IntsAt w v x) (hn : n ≤ 1000) (hx : x.length ≤ 100) (hL : (powW x n).length = L) : Calls Try.prog 136 #[v, .int .i64 (n : Int)] w fun e w' => ∃ A c, e = .returned (.slice A L c) ∧ OwnI w.heap.size w' (.slice A L c) (powW x n) ∧ Below w.heap.size w w' := by
  subst hL
  exact power112_any w v x n h hn hx
structure KS (w W : World) : Prop where
  below : Below w.heap.size w W
  box : W.heap[w.heap.size]? = some (.cells zero40 40 (0, 0))
theorem KS.lt {w W : World} (h : KS w W) : w.heap.size + 1 ≤ W.heap.size := (Array.getElem?_eq_some_iff.1 h.box).1
theorem KS.below' {w W W' : World} (h : KS w W) (hb : Below W.heap.size W W') : KS w W' := ⟨h.below.trans (hb.mono h.below.size), (hb.block _ h.lt).trans h.box⟩
theorem known_start (w W : World) (h : W = ((((w.alloc (.cells zero40 40)).alloc (.cells (ints [1]).toArray 3)).alloc (.cells (ints [2]).toArray 3)).alloc (.cells (ints [1, 2]).toArray 3)).alloc (.cells (ints [-1, -2, 1, 2]).toArray 3)) :
    KS w W ∧ IntsB (w.heap.size + 1) W (.slice (some ⟨w.heap.size + 1, 0, none⟩) 1 1) [1] ∧ IntsB (w.heap.size + 1) W (.slice (some ⟨w.heap.size + 1 + 1, 0, none⟩) 1 1) [2] ∧ IntsB (w.heap.size + 1) W (.slice (some ⟨w.heap.size + 1 + 1 + 1, 0, none⟩) 2 2) [1, 2] ∧ IntsB (w.heap.size + 1) W (.slice (some ⟨w.heap.size + 1 + 1 + 1 + 1, 0, none⟩) 4 4) [-1, -2, 1, 2] := by
  subst h
  have hb : ∀ (V : World) (o : Obj), Below V.heap.size V (V.alloc o) := fun V o => (Below.refl _ _).alloc (Nat.le_refl _) _
  have s0 : KS w (w.alloc (.cells zero40 40)) := ⟨hb _ _, heap_alloc_new w _⟩
  have s1 := s0.below' (hb _ (.cells (ints [1]).toArray 3))
  have s2 := s1.below' (hb _ (.cells (ints [2]).toArray 3))
  have s3 := s2.below' (hb _ (.cells (ints [1, 2]).toArray 3))
  have s4 := s3.below' (hb _ (.cells (ints [-1, -2, 1, 2]).toArray 3))
  have f4 := (((IntsB.lit (base := w.heap.size + 1) _ [1] (fits_lit (by decide)) (n := 1) rfl (by omega) s0.lt).below (hb _ (.cells (ints [2]).toArray 3))).below (hb _ (.cells (ints [1, 2]).toArray 3))).below (hb _ (.cells (ints [-1, -2, 1, 2]).toArray 3))
  have f5 := ((IntsB.lit (base := w.heap.size + 1) _ [2] (fits_lit (by decide)) (n := 1) rfl (by omega) s1.lt).below (hb _ (.cells (ints [1, 2]).toArray 3))).below (hb _ (.cells (ints [-1, -2, 1, 2]).toArray 3))
  have f6 := (IntsB.lit (base := w.heap.size + 1) _ [1, 2] (fits_lit (by decide)) (n := 2) rfl (by omega) s2.lt).below (hb _ (.cells (ints [-1, -2, 1, 2]).toArray 3))
  have f7 := IntsB.lit (base := w.heap.size + 1) _ [-1, -2, 1, 2] (fits_lit (by decide)) (n := 4) rfl (by omega) s3.lt
  simp only [World.size_alloc] at f4 f5 f6 f7
  exact ⟨s4, f4, f5, f6, f7⟩
theorem known_end {w W : World} (h : KS w W) {us : List Value} {xs : List (List Int)} {n : Nat} (hn : us.length = n) (hl : xs.length = n) (hr : ∀ i, i < n → IntsB (w.heap.size + 1) W (us.getD i undef) (xs.getD i [])) (hm : n ≤ 1000) (g : Int) :
    (W.alloc (.cells us.toArray 25)).heap[w.heap.size]? = some (.cells zero40 40 (0, 0)) ∧
      TabB (w.heap.size + 1) ((W.alloc (.cells us.toArray 25)).setRow w.heap.size #[.int .i64 g, .slice (some ⟨W.heap.size, 0, none⟩) n n]) (.slice (some ⟨W.heap.size, 0, none⟩) xs.length n) xs ∧
      Below w.heap.size w ((W.alloc (.cells us.toArray 25)).setRow w.heap.size #[.int .i64 g, .slice (some ⟨W.heap.size, 0, none⟩) n n]) := by
  have hb : Below W.heap.size W (W.alloc (.cells us.toArray 25)) := (Below.refl _ _).alloc (Nat.le_refl _) _
  have h2 := h.below' hb
  refine ⟨h2.box, ?_, below_setRow h2.below (Nat.le_refl _) _⟩
  rw [hl]
  exact (TabB.lit W us xs hn (by omega) (by omega) h.lt (fun i hi => hr i (by omega))).keep (by rw [World.setRow]; simp) fun k hk _ => setRow_other _ _ k _ (by omega)
end Go.Proofs
namespace Go.Proofs
open Go.RowKit Go.Shelf Go.Proofs.Ct Go.Maps
set_option maxRecDepth 100000 in
set_option maxHeartbeats 2000000 in
theorem known60_0 (w : World) (x : Int) (hx : x % 14 = 0) : Calls Try.prog 68 #[.int .i64 x] w (KnownPost 1 [powW [1] 7] 7 w) := by
  have HT : Hid (∀ W, Calls Try.prog 67 #[.int .i64 x, .int .i64 14] W fun e w' => e = .returned (.int .i64 0) ∧ w' = W) := Lib.hid fun W => by
    have := turn59_any W x 14 (by omega)
    rwa [show ((14 : Nat) : Int) = 14 from rfl, hx] at this
  clear hx
  unfold KnownPost
  go_enter Try.func68, Try.ntmps68
  go_wp2_with ((with_reducible refine wpList_sel 2 ?_); refine wpList_val rfl (r_alloc40 rfl) ?_)
  refine (HT.out _).mono ?_
  rintro e w1 ⟨rfl, h0⟩
  obtain ⟨hS, f4, f5, f6, f7⟩ := known_start w w1 h0
  have HS := Lib.hid hS
  have F4 := Lib.hid f4
  have F5 := Lib.hid f5
  have F6 := Lib.hid f6
  have F7 := Lib.hid f7
  clear hS f4 f5 f6 f7 h0
  go_wp2_with fail
  refine (powerK _ _ [1] 7 7 F4.out.at_ (by omega) (by decide) rfl).mono ?_
  rintro e w2 ⟨A17, c17, rfl, ho, hb⟩
  have hnew := IntsB.own (base := w.heap.size + 1) ho (fits_lit (by decide)) HS.out.lt
  have HS := Lib.hid (HS.out.below' hb)
  have F4 := Lib.hid (F4.out.below hb)
  have F5 := Lib.hid (F5.out.below hb)
  have F6 := Lib.hid (F6.out.below hb)
  have F7 := Lib.hid (F7.out.below hb)
  have F17 := Lib.hid hnew
  clear ho hb hnew
  have hrow : ∀ i, i < 1 → IntsB (w.heap.size + 1) (w2) (([.slice A17 7 c17] : List Value).getD i undef) (([powW [1] 7] : List W).getD i []) := fun i hi => by
    have : i = 0 := by omega
    rcases this with rfl
    · exact F17.out
  have hend := known_end HS.out (us := [.slice A17 7 c17]) (xs := [powW [1] 7]) (n := 1) rfl rfl hrow (by omega) 1
  have HEND := Lib.hid hend
  clear hend hrow
  go_wp2_with ((with_reducible refine wpList_sel 19 ?_); refine wpList_val rfl (r_build40s _ (.tmp 18) 1 _ _ _ rfl rfl rfl) ?_; refine wpList_skip rfl (r_store40 (.tmp 2) (.tmp 19) rfl w.heap.size zero40 _ rfl rfl HEND.out.1 rfl rfl (one40 _ _ _ _)) ?_)
  try simp only [Exit.inBlock, Exit.then]
  refine bodyPost_ret (results_40_tmp (p := 2) (q := 3) rfl _ _ w.heap.size _ (.int .i64 7) rfl rfl (setRow_heap _ _ _ _ _ _ HEND.out.1) rfl) rfl ⟨⟨_, _, rfl, HEND.out.2.1⟩, HEND.out.2.2⟩
set_option maxRecDepth 100000 in
set_option maxHeartbeats 2000000 in
theorem known60_1 (w : World) (x : Int) (hx : x % 14 = 1) : Calls Try.prog 68 #[.int .i64 x] w (KnownPost 2 [powW [1] 2, powW [2] 2, powW [1, 2] 5] 10 w) := by
  have HT : Hid (∀ W, Calls Try.prog 67 #[.int .i64 x, .int .i64 14] W fun e w' => e = .returned (.int .i64 1) ∧ w' = W) := Lib.hid fun W => by
    have := turn59_any W x 14 (by omega)
    rwa [show ((14 : Nat) : Int) = 14 from rfl, hx] at this
  clear hx
  unfold KnownPost
  go_enter Try.func68, Try.ntmps68
  go_wp2_with ((with_reducible refine wpList_sel 2 ?_); refine wpList_val rfl (r_alloc40 rfl) ?_)
  refine (HT.out _).mono ?_
  rintro e w1 ⟨rfl, h0⟩
  obtain ⟨hS, f4, f5, f6, f7⟩ := known_start w w1 h0
  have HS := Lib.hid hS
  have F4 := Lib.hid f4
  have F5 := Lib.hid f5
  have F6 := Lib.hid f6
  have F7 := Lib.hid f7
  clear hS f4 f5 f6 f7 h0
  go_wp2_with fail
  refine (powerK _ _ [1] 2 2 F4.out.at_ (by omega) (by decide) rfl).mono ?_
  rintro e w2 ⟨A23, c23, rfl, ho, hb⟩
  have hnew := IntsB.own (base := w.heap.size + 1) ho (fits_lit (by decide)) HS.out.lt
  have HS := Lib.hid (HS.out.below' hb)
  have F4 := Lib.hid (F4.out.below hb)
  have F5 := Lib.hid (F5.out.below hb)
  have F6 := Lib.hid (F6.out.below hb)
  have F7 := Lib.hid (F7.out.below hb)
  have F23 := Lib.hid hnew
  clear ho hb hnew
  go_wp2_with fail
  refine (powerK _ _ [2] 2 2 F5.out.at_ (by omega) (by decide) rfl).mono ?_
  rintro e w3 ⟨A25, c25, rfl, ho, hb⟩
  have hnew := IntsB.own (base := w.heap.size + 1) ho (fits_lit (by decide)) HS.out.lt
  have HS := Lib.hid (HS.out.below' hb)
  have F4 := Lib.hid (F4.out.below hb)
  have F5 := Lib.hid (F5.out.below hb)
  have F6 := Lib.hid (F6.out.below hb)
  have F7 := Lib.hid (F7.out.below hb)
  have F23 := Lib.hid (F23.out.below hb)
  have F25 := Lib.hid hnew
  clear ho hb hnew
  go_wp2_with fail
  refine (powerK _ _ [1, 2] 5 10 F6.out.at_ (by omega) (by decide) rfl).mono ?_
  rintro e w4 ⟨A27, c27, rfl, ho, hb⟩
  have hnew := IntsB.own (base := w.heap.size + 1) ho (fits_lit (by decide)) HS.out.lt
  have HS := Lib.hid (HS.out.below' hb)
  have F4 := Lib.hid (F4.out.below hb)
  have F5 := Lib.hid (F5.out.below hb)
  have F6 := Lib.hid (F6.out.below hb)
  have F7 := Lib.hid (F7.out.below hb)
  have F23 := Lib.hid (F23.out.below hb)
  have F25 := Lib.hid (F25.out.below hb)
  have F27 := Lib.hid hnew
  clear ho hb hnew
  have hrow : ∀ i, i < 3 → IntsB (w.heap.size + 1) (w4) (([.slice A23 2 c23, .slice A25 2 c25, .slice A27 10 c27] : List Value).getD i undef) (([powW [1] 2, powW [2] 2, powW [1, 2] 5] : List W).getD i []) := fun i hi => by
    have : i = 0 ∨ i = 1 ∨ i = 2 := by omega
    rcases this with rfl | rfl | rfl
    · exact F23.out
    · exact F25.out
    · exact F27.out
  have hend := known_end HS.out (us := [.slice A23 2 c23, .slice A25 2 c25, .slice A27 10 c27]) (xs := [powW [1] 2, powW [2] 2, powW [1, 2] 5]) (n := 3) rfl rfl hrow (by omega) 2
  have HEND := Lib.hid hend
  clear hend hrow
  go_wp2_with ((with_reducible refine wpList_sel 29 ?_); refine wpList_val rfl (r_build40s _ (.tmp 28) 2 _ _ _ rfl rfl rfl) ?_; refine wpList_skip rfl (r_store40 (.tmp 2) (.tmp 29) rfl w.heap.size zero40 _ rfl rfl HEND.out.1 rfl rfl (one40 _ _ _ _)) ?_)
  try simp only [Exit.inBlock, Exit.then]
  refine bodyPost_ret (results_40_tmp (p := 2) (q := 3) rfl _ _ w.heap.size _ (.int .i64 10) rfl rfl (setRow_heap _ _ _ _ _ _ HEND.out.1) rfl) rfl ⟨⟨_, _, rfl, HEND.out.2.1⟩, HEND.out.2.2⟩
set_option maxRecDepth 100000 in
set_option maxHeartbeats 2000000 in
theorem known60_2 (w : World) (x : Int) (hx : x % 14 = 2) : Calls Try.prog 68 #[.int .i64 x] w (KnownPost 2 [powW [1] 2, powW [2] 3, powW [1, 2] 3] 12 w) := by
  have HT : Hid (∀ W, Calls Try.prog 67 #[.int .i64 x, .int .i64 14] W fun e w' => e = .returned (.int .i64 2) ∧ w' = W) := Lib.hid fun W => by
    have := turn59_any W x 14 (by omega)
    rwa [show ((14 : Nat) : Int) = 14 from rfl, hx] at this
  clear hx
  unfold KnownPost
  go_enter Try.func68, Try.ntmps68
  go_wp2_with ((with_reducible refine wpList_sel 2 ?_); refine wpList_val rfl (r_alloc40 rfl) ?_)
  refine (HT.out _).mono ?_
  rintro e w1 ⟨rfl, h0⟩
  obtain ⟨hS, f4, f5, f6, f7⟩ := known_start w w1 h0
  have HS := Lib.hid hS
  have F4 := Lib.hid f4
  have F5 := Lib.hid f5
  have F6 := Lib.hid f6
  have F7 := Lib.hid f7
  clear hS f4 f5 f6 f7 h0
  go_wp2_with fail
  refine (powerK _ _ [1] 2 2 F4.out.at_ (by omega) (by decide) rfl).mono ?_
  rintro e w2 ⟨A33, c33, rfl, ho, hb⟩
  have hnew := IntsB.own (base := w.heap.size + 1) ho (fits_lit (by decide)) HS.out.lt
  have HS := Lib.hid (HS.out.below' hb)
  have F4 := Lib.hid (F4.out.below hb)
  have F5 := Lib.hid (F5.out.below hb)
  have F6 := Lib.hid (F6.out.below hb)
  have F7 := Lib.hid (F7.out.below hb)
  have F33 := Lib.hid hnew
  clear ho hb hnew
  go_wp2_with fail
  refine (powerK _ _ [2] 3 3 F5.out.at_ (by omega) (by decide) rfl).mono ?_
  rintro e w3 ⟨A35, c35, rfl, ho, hb⟩
  have hnew := IntsB.own (base := w.heap.size + 1) ho (fits_lit (by decide)) HS.out.lt
  have HS := Lib.hid (HS.out.below' hb)
  have F4 := Lib.hid (F4.out.below hb)
  have F5 := Lib.hid (F5.out.below hb)
  have F6 := Lib.hid (F6.out.below hb)
  have F7 := Lib.hid (F7.out.below hb)
  have F33 := Lib.hid (F33.out.below hb)
  have F35 := Lib.hid hnew
  clear ho hb hnew
  go_wp2_with fail
  refine (powerK _ _ [1, 2] 3 6 F6.out.at_ (by omega) (by decide) rfl).mono ?_
  rintro e w4 ⟨A37, c37, rfl, ho, hb⟩
  have hnew := IntsB.own (base := w.heap.size + 1) ho (fits_lit (by decide)) HS.out.lt
  have HS := Lib.hid (HS.out.below' hb)
  have F4 := Lib.hid (F4.out.below hb)
  have F5 := Lib.hid (F5.out.below hb)
  have F6 := Lib.hid (F6.out.below hb)
  have F7 := Lib.hid (F7.out.below hb)
  have F33 := Lib.hid (F33.out.below hb)
  have F35 := Lib.hid (F35.out.below hb)
  have F37 := Lib.hid hnew
  clear ho hb hnew
  have hrow : ∀ i, i < 3 → IntsB (w.heap.size + 1) (w4) (([.slice A33 2 c33, .slice A35 3 c35, .slice A37 6 c37] : List Value).getD i undef) (([powW [1] 2, powW [2] 3, powW [1, 2] 3] : List W).getD i []) := fun i hi => by
    have : i = 0 ∨ i = 1 ∨ i = 2 := by omega
    rcases this with rfl | rfl | rfl
    · exact F33.out
    · exact F35.out
    · exact F37.out
  have hend := known_end HS.out (us := [.slice A33 2 c33, .slice A35 3 c35, .slice A37 6 c37]) (xs := [powW [1] 2, powW [2] 3, powW [1, 2] 3]) (n := 3) rfl rfl hrow (by omega) 2
  have HEND := Lib.hid hend
  clear hend hrow
  go_wp2_with ((with_reducible refine wpList_sel 39 ?_); refine wpList_val rfl (r_build40s _ (.tmp 38) 2 _ _ _ rfl rfl rfl) ?_; refine wpList_skip rfl (r_store40 (.tmp 2) (.tmp 39) rfl w.heap.size zero40 _ rfl rfl HEND.out.1 rfl rfl (one40 _ _ _ _)) ?_)
  try simp only [Exit.inBlock, Exit.then]
  refine bodyPost_ret (results_40_tmp (p := 2) (q := 3) rfl _ _ w.heap.size _ (.int .i64 12) rfl rfl (setRow_heap _ _ _ _ _ _ HEND.out.1) rfl) rfl ⟨⟨_, _, rfl, HEND.out.2.1⟩, HEND.out.2.2⟩
set_option maxRecDepth 100000 in
set_option maxHeartbeats 2000000 in
theorem known60_3 (w : World) (x : Int) (hx : x % 14 = 3) : Calls Try.prog 68 #[.int .i64 x] w (KnownPost 2 [powW [1] 2, powW [2] 3, powW [1, 2] 4] 24 w) := by
  have HT : Hid (∀ W, Calls Try.prog 67 #[.int .i64 x, .int .i64 14] W fun e w' => e = .returned (.int .i64 3) ∧ w' = W) := Lib.hid fun W => by
    have := turn59_any W x 14 (by omega)
    rwa [show ((14 : Nat) : Int) = 14 from rfl, hx] at this
  clear hx
  unfold KnownPost
  go_enter Try.func68, Try.ntmps68
  go_wp2_with ((with_reducible refine wpList_sel 2 ?_); refine wpList_val rfl (r_alloc40 rfl) ?_)
  refine (HT.out _).mono ?_
  rintro e w1 ⟨rfl, h0⟩
  obtain ⟨hS, f4, f5, f6, f7⟩ := known_start w w1 h0
  have HS := Lib.hid hS
  have F4 := Lib.hid f4
  have F5 := Lib.hid f5
  have F6 := Lib.hid f6
  have F7 := Lib.hid f7
  clear hS f4 f5 f6 f7 h0
  go_wp2_with fail
  refine (powerK _ _ [1] 2 2 F4.out.at_ (by omega) (by decide) rfl).mono ?_
  rintro e w2 ⟨A43, c43, rfl, ho, hb⟩
  have hnew := IntsB.own (base := w.heap.size + 1) ho (fits_lit (by decide)) HS.out.lt
  have HS := Lib.hid (HS.out.below' hb)
  have F4 := Lib.hid (F4.out.below hb)
  have F5 := Lib.hid (F5.out.below hb)
  have F6 := Lib.hid (F6.out.below hb)
  have F7 := Lib.hid (F7.out.below hb)
  have F43 := Lib.hid hnew
  clear ho hb hnew
  go_wp2_with fail
  refine (powerK _ _ [2] 3 3 F5.out.at_ (by omega) (by decide) rfl).mono ?_
  rintro e w3 ⟨A45, c45, rfl, ho, hb⟩
  have hnew := IntsB.own (base := w.heap.size + 1) ho (fits_lit (by decide)) HS.out.lt
  have HS := Lib.hid (HS.out.below' hb)
  have F4 := Lib.hid (F4.out.below hb)
  have F5 := Lib.hid (F5.out.below hb)
  have F6 := Lib.hid (F6.out.below hb)
  have F7 := Lib.hid (F7.out.below hb)
  have F43 := Lib.hid (F43.out.below hb)
  have F45 := Lib.hid hnew
  clear ho hb hnew
  go_wp2_with fail
  refine (powerK _ _ [1, 2] 4 8 F6.out.at_ (by omega) (by decide) rfl).mono ?_
  rintro e w4 ⟨A47, c47, rfl, ho, hb⟩
  have hnew := IntsB.own (base := w.heap.size + 1) ho (fits_lit (by decide)) HS.out.lt
  have HS := Lib.hid (HS.out.below' hb)
  have F4 := Lib.hid (F4.out.below hb)
  have F5 := Lib.hid (F5.out.below hb)
  have F6 := Lib.hid (F6.out.below hb)
  have F7 := Lib.hid (F7.out.below hb)
  have F43 := Lib.hid (F43.out.below hb)
  have F45 := Lib.hid (F45.out.below hb)
  have F47 := Lib.hid hnew
  clear ho hb hnew
  have hrow : ∀ i, i < 3 → IntsB (w.heap.size + 1) (w4) (([.slice A43 2 c43, .slice A45 3 c45, .slice A47 8 c47] : List Value).getD i undef) (([powW [1] 2, powW [2] 3, powW [1, 2] 4] : List W).getD i []) := fun i hi => by
    have : i = 0 ∨ i = 1 ∨ i = 2 := by omega
    rcases this with rfl | rfl | rfl
    · exact F43.out
    · exact F45.out
    · exact F47.out
  have hend := known_end HS.out (us := [.slice A43 2 c43, .slice A45 3 c45, .slice A47 8 c47]) (xs := [powW [1] 2, powW [2] 3, powW [1, 2] 4]) (n := 3) rfl rfl hrow (by omega) 2
  have HEND := Lib.hid hend
  clear hend hrow
  go_wp2_with ((with_reducible refine wpList_sel 49 ?_); refine wpList_val rfl (r_build40s _ (.tmp 48) 2 _ _ _ rfl rfl rfl) ?_; refine wpList_skip rfl (r_store40 (.tmp 2) (.tmp 49) rfl w.heap.size zero40 _ rfl rfl HEND.out.1 rfl rfl (one40 _ _ _ _)) ?_)
  try simp only [Exit.inBlock, Exit.then]
  refine bodyPost_ret (results_40_tmp (p := 2) (q := 3) rfl _ _ w.heap.size _ (.int .i64 24) rfl rfl (setRow_heap _ _ _ _ _ _ HEND.out.1) rfl) rfl ⟨⟨_, _, rfl, HEND.out.2.1⟩, HEND.out.2.2⟩
set_option maxRecDepth 100000 in
set_option maxHeartbeats 2000000 in
theorem known60_4 (w : World) (x : Int) (hx : x % 14 = 4) : Calls Try.prog 68 #[.int .i64 x] w (KnownPost 2 [powW [1] 2, powW [2] 3, powW [1, 2] 5] 60 w) := by
  have HT : Hid (∀ W, Calls Try.prog 67 #[.int .i64 x, .int .i64 14] W fun e w' => e = .returned (.int .i64 4) ∧ w' = W) := Lib.hid fun W => by
    have := turn59_any W x 14 (by omega)
    rwa [show ((14 : Nat) : Int) = 14 from rfl, hx] at this
  clear hx
  unfold KnownPost
  go_enter Try.func68, Try.ntmps68
  go_wp2_with ((with_reducible refine wpList_sel 2 ?_); refine wpList_val rfl (r_alloc40 rfl) ?_)
  refine (HT.out _).mono ?_
  rintro e w1 ⟨rfl, h0⟩
  obtain ⟨hS, f4, f5, f6, f7⟩ := known_start w w1 h0
  have HS := Lib.hid hS
  have F4 := Lib.hid f4
  have F5 := Lib.hid f5
  have F6 := Lib.hid f6
  have F7 := Lib.hid f7
  clear hS f4 f5 f6 f7 h0
  go_wp2_with fail
  refine (powerK _ _ [1] 2 2 F4.out.at_ (by omega) (by decide) rfl).mono ?_
  rintro e w2 ⟨A53, c53, rfl, ho, hb⟩
  have hnew := IntsB.own (base := w.heap.size + 1) ho (fits_lit (by decide)) HS.out.lt
  have HS := Lib.hid (HS.out.below' hb)
  have F4 := Lib.hid (F4.out.below hb)
  have F5 := Lib.hid (F5.out.below hb)
  have F6 := Lib.hid (F6.out.below hb)
  have F7 := Lib.hid (F7.out.below hb)
  have F53 := Lib.hid hnew
  clear ho hb hnew
  go_wp2_with fail
  refine (powerK _ _ [2] 3 3 F5.out.at_ (by omega) (by decide) rfl).mono ?_
  rintro e w3 ⟨A55, c55, rfl, ho, hb⟩
  have hnew := IntsB.own (base := w.heap.size + 1) ho (fits_lit (by decide)) HS.out.lt
  have HS := Lib.hid (HS.out.below' hb)
  have F4 := Lib.hid (F4.out.below hb)
  have F5 := Lib.hid (F5.out.below hb)
  have F6 := Lib.hid (F6.out.below hb)
  have F7 := Lib.hid (F7.out.below hb)
  have F53 := Lib.hid (F53.out.below hb)
  have F55 := Lib.hid hnew
  clear ho hb hnew
  go_wp2_with fail
  refine (powerK _ _ [1, 2] 5 10 F6.out.at_ (by omega) (by decide) rfl).mono ?_
  rintro e w4 ⟨A57, c57, rfl, ho, hb⟩
  have hnew := IntsB.own (base := w.heap.size + 1) ho (fits_lit (by decide)) HS.out.lt
  have HS := Lib.hid (HS.out.below' hb)
  have F4 := Lib.hid (F4.out.below hb)
  have F5 := Lib.hid (F5.out.below hb)
  have F6 := Lib.hid (F6.out.below hb)
  have F7 := Lib.hid (F7.out.below hb)
  have F53 := Lib.hid (F53.out.below hb)
  have F55 := Lib.hid (F55.out.below hb)
  have F57 := Lib.hid hnew
  clear ho hb hnew
  have hrow : ∀ i, i < 3 → IntsB (w.heap.size + 1) (w4) (([.slice A53 2 c53, .slice A55 3 c55, .slice A57 10 c57] : List Value).getD i undef) (([powW [1] 2, powW [2] 3, powW [1, 2] 5] : List W).getD i []) := fun i hi => by
    have : i = 0 ∨ i = 1 ∨ i = 2 := by omega
    rcases this with rfl | rfl | rfl
    · exact F53.out
    · exact F55.out
    · exact F57.out
  have hend := known_end HS.out (us := [.slice A53 2 c53, .slice A55 3 c55, .slice A57 10 c57]) (xs := [powW [1] 2, powW [2] 3, powW [1, 2] 5]) (n := 3) rfl rfl hrow (by omega) 2
  have HEND := Lib.hid hend
  clear hend hrow
  go_wp2_with ((with_reducible refine wpList_sel 59 ?_); refine wpList_val rfl (r_build40s _ (.tmp 58) 2 _ _ _ rfl rfl rfl) ?_; refine wpList_skip rfl (r_store40 (.tmp 2) (.tmp 59) rfl w.heap.size zero40 _ rfl rfl HEND.out.1 rfl rfl (one40 _ _ _ _)) ?_)
  try simp only [Exit.inBlock, Exit.then]
  refine bodyPost_ret (results_40_tmp (p := 2) (q := 3) rfl _ _ w.heap.size _ (.int .i64 60) rfl rfl (setRow_heap _ _ _ _ _ _ HEND.out.1) rfl) rfl ⟨⟨_, _, rfl, HEND.out.2.1⟩, HEND.out.2.2⟩
set_option maxRecDepth 100000 in
set_option maxHeartbeats 2000000 in
theorem known60_5 (w : World) (x : Int) (hx : x % 14 = 5) : Calls Try.prog 68 #[.int .i64 x] w (KnownPost 2 [powW [1] 4, [1, 1, -2, -2], [-2, 1, 2, 1]] 8 w) := by
  have HT : Hid (∀ W, Calls Try.prog 67 #[.int .i64 x, .int .i64 14] W fun e w' => e = .returned (.int .i64 5) ∧ w' = W) := Lib.hid fun W => by
    have := turn59_any W x 14 (by omega)
    rwa [show ((14 : Nat) : Int) = 14 from rfl, hx] at this
  clear hx
  unfold KnownPost
  go_enter Try.func68, Try.ntmps68
  go_wp2_with ((with_reducible refine wpList_sel 2 ?_); refine wpList_val rfl (r_alloc40 rfl) ?_)
  refine (HT.out _).mono ?_
  rintro e w1 ⟨rfl, h0⟩
  obtain ⟨hS, f4, f5, f6, f7⟩ := known_start w w1 h0
  have HS := Lib.hid hS
  have F4 := Lib.hid f4
  have F5 := Lib.hid f5
  have F6 := Lib.hid f6
  have F7 := Lib.hid f7
  clear hS f4 f5 f6 f7 h0
  go_wp2_with fail
  refine (powerK _ _ [1] 4 4 F4.out.at_ (by omega) (by decide) rfl).mono ?_
  rintro e w2 ⟨A63, c63, rfl, ho, hb⟩
  have hnew := IntsB.own (base := w.heap.size + 1) ho (fits_lit (by decide)) HS.out.lt
  have HS := Lib.hid (HS.out.below' hb)
  have F4 := Lib.hid (F4.out.below hb)
  have F5 := Lib.hid (F5.out.below hb)
  have F6 := Lib.hid (F6.out.below hb)
  have F7 := Lib.hid (F7.out.below hb)
  have F63 := Lib.hid hnew
  clear ho hb hnew
  have hal : Below (w2).heap.size (w2) ((w2).alloc (.cells (ints [1, 1, -2, -2]).toArray 3)) := (Below.refl _ _).alloc (Nat.le_refl _) _
  have hnew := IntsB.lit (base := w.heap.size + 1) (w2) [1, 1, -2, -2] (fits_lit (by decide)) (n := 4) rfl (by omega) HS.out.lt
  have HS := Lib.hid (HS.out.below' hal)
  have F4 := Lib.hid (F4.out.below hal)
  have F5 := Lib.hid (F5.out.below hal)
  have F6 := Lib.hid (F6.out.below hal)
  have F7 := Lib.hid (F7.out.below hal)
  have F63 := Lib.hid (F63.out.below hal)
  have F64 := Lib.hid hnew
  clear hal hnew
  have hal : Below ((w2).alloc (.cells (ints [1, 1, -2, -2]).toArray 3)).heap.size ((w2).alloc (.cells (ints [1, 1, -2, -2]).toArray 3)) (((w2).alloc (.cells (ints [1, 1, -2, -2]).toArray 3)).alloc (.cells (ints [-2, 1, 2, 1]).toArray 3)) := (Below.refl _ _).alloc (Nat.le_refl _) _
  have hnew := IntsB.lit (base := w.heap.size + 1) ((w2).alloc (.cells (ints [1, 1, -2, -2]).toArray 3)) [-2, 1, 2, 1] (fits_lit (by decide)) (n := 4) rfl (by omega) HS.out.lt
  simp only [World.size_alloc] at hnew
  have HS := Lib.hid (HS.out.below' hal)
  have F4 := Lib.hid (F4.out.below hal)
  have F5 := Lib.hid (F5.out.below hal)
  have F6 := Lib.hid (F6.out.below hal)
  have F7 := Lib.hid (F7.out.below hal)
  have F63 := Lib.hid (F63.out.below hal)
  have F64 := Lib.hid (F64.out.below hal)
  have F65 := Lib.hid hnew
  clear hal hnew
  have hrow : ∀ i, i < 3 → IntsB (w.heap.size + 1) (((w2).alloc (.cells (ints [1, 1, -2, -2]).toArray 3)).alloc (.cells (ints [-2, 1, 2, 1]).toArray 3)) (([.slice A63 4 c63, .slice (some ⟨w2.heap.size, 0, none⟩) 4 4, .slice (some ⟨w2.heap.size + 1, 0, none⟩) 4 4] : List Value).getD i undef) (([powW [1] 4, [1, 1, -2, -2], [-2, 1, 2, 1]] : List W).getD i []) := fun i hi => by
    have : i = 0 ∨ i = 1 ∨ i = 2 := by omega
    rcases this with rfl | rfl | rfl
    · exact F63.out
    · exact F64.out
    · exact F65.out
  have hend := known_end HS.out (us := [.slice A63 4 c63, .slice (some ⟨w2.heap.size, 0, none⟩) 4 4, .slice (some ⟨w2.heap.size + 1, 0, none⟩) 4 4]) (xs := [powW [1] 4, [1, 1, -2, -2], [-2, 1, 2, 1]]) (n := 3) rfl rfl hrow (by omega) 2
  simp only [World.size_alloc] at hend
  have HEND := Lib.hid hend
  clear hend hrow
  go_wp2_with ((with_reducible refine wpList_sel 67 ?_); refine wpList_val rfl (r_build40s _ (.tmp 66) 2 _ _ _ rfl rfl rfl) ?_; refine wpList_skip rfl (r_store40 (.tmp 2) (.tmp 67) rfl w.heap.size zero40 _ rfl rfl HEND.out.1 rfl rfl (one40 _ _ _ _)) ?_)
  try simp only [Exit.inBlock, Exit.then]
  refine bodyPost_ret (results_40_tmp (p := 2) (q := 3) rfl _ _ w.heap.size _ (.int .i64 8) rfl rfl (setRow_heap _ _ _ _ _ _ HEND.out.1) rfl) rfl ⟨⟨_, _, rfl, HEND.out.2.1⟩, HEND.out.2.2⟩
set_option maxRecDepth 100000 in
set_option maxHeartbeats 2000000 in
theorem known60_6 (w : World) (x : Int) (hx : x % 14 = 6) : Calls Try.prog 68 #[.int .i64 x] w (KnownPost 2 [powW [1] 3, powW [2] 3, powW [1, 2] 3, powW [1, -2] 3] 27 w) := by
  have HT : Hid (∀ W, Calls Try.prog 67 #[.int .i64 x, .int .i64 14] W fun e w' => e = .returned (.int .i64 6) ∧ w' = W) := Lib.hid fun W => by
    have := turn59_any W x 14 (by omega)
    rwa [show ((14 : Nat) : Int) = 14 from rfl, hx] at this
  clear hx
  unfold KnownPost
  go_enter Try.func68, Try.ntmps68
  go_wp2_with ((with_reducible refine wpList_sel 2 ?_); refine wpList_val rfl (r_alloc40 rfl) ?_)
  refine (HT.out _).mono ?_
  rintro e w1 ⟨rfl, h0⟩
  obtain ⟨hS, f4, f5, f6, f7⟩ := known_start w w1 h0
  have HS := Lib.hid hS
  have F4 := Lib.hid f4
  have F5 := Lib.hid f5
  have F6 := Lib.hid f6
  have F7 := Lib.hid f7
  clear hS f4 f5 f6 f7 h0
  go_wp2_with fail
  refine (powerK _ _ [1] 3 3 F4.out.at_ (by omega) (by decide) rfl).mono ?_
  rintro e w2 ⟨A71, c71, rfl, ho, hb⟩
  have hnew := IntsB.own (base := w.heap.size + 1) ho (fits_lit (by decide)) HS.out.lt
  have HS := Lib.hid (HS.out.below' hb)
  have F4 := Lib.hid (F4.out.below hb)
  have F5 := Lib.hid (F5.out.below hb)
  have F6 := Lib.hid (F6.out.below hb)
  have F7 := Lib.hid (F7.out.below hb)
  have F71 := Lib.hid hnew
  clear ho hb hnew
  go_wp2_with fail
  refine (powerK _ _ [2] 3 3 F5.out.at_ (by omega) (by decide) rfl).mono ?_
  rintro e w3 ⟨A73, c73, rfl, ho, hb⟩
  have hnew := IntsB.own (base := w.heap.size + 1) ho (fits_lit (by decide)) HS.out.lt
  have HS := Lib.hid (HS.out.below' hb)
  have F4 := Lib.hid (F4.out.below hb)
  have F5 := Lib.hid (F5.out.below hb)
  have F6 := Lib.hid (F6.out.below hb)
  have F7 := Lib.hid (F7.out.below hb)
  have F71 := Lib.hid (F71.out.below hb)
  have F73 := Lib.hid hnew
  clear ho hb hnew
  go_wp2_with fail
  refine (powerK _ _ [1, 2] 3 6 F6.out.at_ (by omega) (by decide) rfl).mono ?_
  rintro e w4 ⟨A75, c75, rfl, ho, hb⟩
  have hnew := IntsB.own (base := w.heap.size + 1) ho (fits_lit (by decide)) HS.out.lt
  have HS := Lib.hid (HS.out.below' hb)
  have F4 := Lib.hid (F4.out.below hb)
  have F5 := Lib.hid (F5.out.below hb)
  have F6 := Lib.hid (F6.out.below hb)
  have F7 := Lib.hid (F7.out.below hb)
  have F71 := Lib.hid (F71.out.below hb)
  have F73 := Lib.hid (F73.out.below hb)
  have F75 := Lib.hid hnew
  clear ho hb hnew
  have hal : Below (w4).heap.size (w4) ((w4).alloc (.cells (ints [1, -2]).toArray 3)) := (Below.refl _ _).alloc (Nat.le_refl _) _
  have hnew := IntsB.lit (base := w.heap.size + 1) (w4) [1, -2] (fits_lit (by decide)) (n := 2) rfl (by omega) HS.out.lt
  have HS := Lib.hid (HS.out.below' hal)
  have F4 := Lib.hid (F4.out.below hal)
  have F5 := Lib.hid (F5.out.below hal)
  have F6 := Lib.hid (F6.out.below hal)
  have F7 := Lib.hid (F7.out.below hal)
  have F71 := Lib.hid (F71.out.below hal)
  have F73 := Lib.hid (F73.out.below hal)
  have F75 := Lib.hid (F75.out.below hal)
  have F76 := Lib.hid hnew
  clear hal hnew
  go_wp2_with fail
  refine (powerK _ _ [1, -2] 3 6 F76.out.at_ (by omega) (by decide) rfl).mono ?_
  rintro e w5 ⟨A77, c77, rfl, ho, hb⟩
  have hnew := IntsB.own (base := w.heap.size + 1) ho (fits_lit (by decide)) HS.out.lt
  have HS := Lib.hid (HS.out.below' hb)
  have F4 := Lib.hid (F4.out.below hb)
  have F5 := Lib.hid (F5.out.below hb)
  have F6 := Lib.hid (F6.out.below hb)
  have F7 := Lib.hid (F7.out.below hb)
  have F71 := Lib.hid (F71.out.below hb)
  have F73 := Lib.hid (F73.out.below hb)
  have F75 := Lib.hid (F75.out.below hb)
  have F76 := Lib.hid (F76.out.below hb)
  have F77 := Lib.hid hnew
  clear ho hb hnew
  have hrow : ∀ i, i < 4 → IntsB (w.heap.size + 1) (w5) (([.slice A71 3 c71, .slice A73 3 c73, .slice A75 6 c75, .slice A77 6 c77] : List Value).getD i undef) (([powW [1] 3, powW [2] 3, powW [1, 2] 3, powW [1, -2] 3] : List W).getD i []) := fun i hi => by
    have : i = 0 ∨ i = 1 ∨ i = 2 ∨ i = 3 := by omega
    rcases this with rfl | rfl | rfl | rfl
    · exact F71.out
    · exact F73.out
    · exact F75.out
    · exact F77.out
  have hend := known_end HS.out (us := [.slice A71 3 c71, .slice A73 3 c73, .slice A75 6 c75, .slice A77 6 c77]) (xs := [powW [1] 3, powW [2] 3, powW [1, 2] 3, powW [1, -2] 3]) (n := 4) rfl rfl hrow (by omega) 2
  have HEND := Lib.hid hend
  clear hend hrow
  go_wp2_with ((with_reducible refine wpList_sel 79 ?_); refine wpList_val rfl (r_build40s _ (.tmp 78) 2 _ _ _ rfl rfl rfl) ?_; refine wpList_skip rfl (r_store40 (.tmp 2) (.tmp 79) rfl w.heap.size zero40 _ rfl rfl HEND.out.1 rfl rfl (one40 _ _ _ _)) ?_)
  try simp only [Exit.inBlock, Exit.then]
  refine bodyPost_ret (results_40_tmp (p := 2) (q := 3) rfl _ _ w.heap.size _ (.int .i64 27) rfl rfl (setRow_heap _ _ _ _ _ _ HEND.out.1) rfl) rfl ⟨⟨_, _, rfl, HEND.out.2.1⟩, HEND.out.2.2⟩
end Go.Proofs
