/- WordsOf; power; the words of a law; One operation at a time: what it runs to; (*coset.state).find; (*coset.state).alive, join, merge; (*coset.state).merge; (*coset.state).merge, the walk. -/
import Derived.Test.YtcfighimnkfmeaaCjCS9
import Derived.Test.YtcfighimnkfmeaaCjCS6
import Derived.BigRegion
import Derived.WalkMore
namespace Go.Proofs
open Go.RowKit Go.Shelf Go.Proofs.Ct Go.Maps
theorem under24e : Try.prog.underlying 24 = some (.slice (Try.prog.elem 24)) := by kernel_rfl
theorem r_slice_lo {o : Oper} {a : Act} {w : World} (x y : Operand) (A : Option Addr) (n c k : Nat) (ho : o.op = .slice 24 x (some y) none none) (hx : a.eval x = .slice A n c) (hy : a.eval y = .int .i64 (k : Int)) (hk : k ≤ n) : (execOp a.eval o).run Try.prog w = .ok (.value (sliced A k n c 1)) w := by
  have hu := under24e
  have hs : (sizeOf (Try.prog.elem 24)).run Try.prog w = .ok 1 w := by kernel_rfl
  unfold execOp
  simp only [ho, hx, hy, Option.map_none, Option.map_some, Sem.run_bind, run_sliceAt_slice w 24 _ _ _ _ hu, run_slice_l w 24 A n c hu .i64 (k : Int) (by omega) (by omega)]
  simp [hs]
theorem r_slice_lohi {o : Oper} {a : Act} {w : World} (x y z : Operand) (A : Option Addr) (n c k h : Nat) (ho : o.op = .slice 24 x (some y) (some z) none) (hx : a.eval x = .slice A n c) (hy : a.eval y = .int .i64 (k : Int)) (hz : a.eval z = .int .i64 (h : Int)) (hk : k ≤ h) (hc : h ≤ c) : (execOp a.eval o).run Try.prog w = .ok (.value (sliced A k h c 1)) w := by
  have hu := under24e
  have hs : (sizeOf (Try.prog.elem 24)).run Try.prog w = .ok 1 w := by kernel_rfl
  unfold execOp
  simp only [ho, hx, hy, hz, Option.map_none, Option.map_some, Sem.run_bind, run_sliceAt_slice w 24 _ _ _ _ hu, run_slice_lh w 24 A n c hu .i64 .i64 (k : Int) (h : Int) (by omega) (by omega) (by omega)]
  simp [hs]
theorem ints_sliced {w : World} {A : Option Addr} {c k h : Nat} {l : List Int} (hI : IntsAt w (.slice A l.length c) l) (hk : k ≤ h) (hh : h ≤ l.length) : ∃ A', sliced A k h c 1 = .slice A' (h - k) (c - k) ∧ IntsAt w (.slice A' (h - k) (c - k)) ((l.take h).drop k) := by
  obtain ⟨⟨A0, n, cap, e, h1, h2, h3, h4⟩, hf⟩ := hI
  obtain ⟨rfl, rfl, rfl⟩ := Value.slice.inj e
  refine ⟨_, rfl, ⟨_, _, _, rfl, by simp [ints]; omega, by omega, by omega, fun hp => ?_⟩, fun y hy => hf y (List.mem_of_mem_take (List.mem_of_mem_drop hy))⟩
  obtain ⟨b, off, rfl, hr⟩ := h4 (by omega)
  refine ⟨b, off + k, ?_, fun j v hj => ?_⟩
  · rw [if_neg (by omega), Nat.mul_one]
    exact congrArg some (Addr.add_mid b off k)
  · have hj' : (ints l)[k + j]? = some v := by
      simp only [ints, List.getElem?_map, List.getElem?_drop, List.getElem?_take] at hj ⊢
      split at hj
      · exact hj
      · simp at hj
    have := hr (k + j) v hj'
    rwa [show off + k + j = off + (k + j) by omega]
/-- the words that numbers select -/
def wordsTo (g most : Nat) : Nat → List Int → List W
  | 0, _ => []
  | _ + 1, [] => []
  | f + 1, x :: l => wordOf g (l.take (min (x % ((most + 1 : Nat) : Int)).toNat l.length)) :: wordsTo g most f (l.drop (min (x % ((most + 1 : Nat) : Int)).toNat l.length))
def wordsOf (g most : Nat) (l : List Int) : List W := wordsTo g most l.length l
theorem wordsTo_nil (g most f : Nat) : wordsTo g most f [] = [] := by cases f <;> rfl
theorem fits_wordOf {g : Nat} (hg : 1 ≤ g ∧ g ≤ 400) (l : List Int) : Fits (wordOf g l) := fun x hx => by
  obtain ⟨y, -, rfl⟩ := List.mem_map.1 hx
  have h1 := Int.emod_nonneg y (show ((2 * g : Nat) : Int) ≠ 0 by omega)
  have h2 := Int.emod_lt_of_pos y (show (0 : Int) < ((2 * g : Nat) : Int) by omega)
  have := letter_bd (c := (y % ((2 * g : Nat) : Int)).toNat) (by omega)
  omega
theorem r_min2 {o : Oper} {a : Act} {w : World} (x y : Operand) (i j z : Int) (ho : o.op = .call { callee := .builtin .min, args := #[x, y], argTypes := #[3, 3] }) (hx : a.eval x = .int .i64 i) (hy : a.eval y = .int .i64 j) (hz : z = min i j) : (execOp a.eval o).run Try.prog w = .ok (.value (.int .i64 z)) w := by
  have e : (if j < i then j else i) = z := by rw [hz]; split <;> omega
  unfold execOp
  simp only [ho, resolve, invoke, builtin, Sem.run_bind, Sem.run_pure, Result.andThen_ok, List.map_toArray, List.map_cons, List.map_nil, hx, hy, run_min_int2, e]
def WordsPost (x : List W) (w : World) (e : Ending) (w' : World) : Prop := (∃ A c, e = .returned (.slice A x.length c) ∧ TabB w.heap.size w' (.slice A x.length c) x) ∧ Below w.heap.size w w'
set_option maxRecDepth 100000 in
set_option maxHeartbeats 2000000 in
theorem wordsOf111_any (w : World) (v : Value) (l : List Int) (g most : Nat) (h : IntsAt w v l) (hg : 1 ≤ g ∧ g ≤ 400) (hm : most ≤ 1000) (hl : l.length ≤ 100000) : Calls Try.prog 111 #[v, .int .i64 (g : Int), .int .i64 (most : Int)] w (WordsPost (wordsOf g most l) w) := by
  obtain ⟨A, c, rfl, h1, h2, h3⟩ := h.open_
  have HI := Lib.hid h
  have hot := OutSt.nil 25 (Below.refl w.heap.size w)
  have HOT := Lib.hid hot
  have hg0 : (0 : Int) ≤ (g : Int) := Int.natCast_nonneg _
  have hm0 : (0 : Int) ≤ (most : Int) := Int.natCast_nonneg _
  have hm1 : (most : Int) ≤ 1000 := by omega
  have HW0 : Hid (wordsOf g most l = [] ++ wordsTo g most l.length l) := Lib.hid rfl
  unfold WordsPost
  generalize hX : wordsOf g most l = X at *
  have hln : l.length + 0 ≤ 100000 := by omega
  clear h h3 hot hX
  go_enter Try.func111, Try.ntmps111
  go_wp2_with fail
  go_loopw [0, 7] (fun sl so wr => ∃ (l2 : List Int) (f m : Nat), (∃ A c, sl = .slice A l2.length c ∧ c ≤ 9223372036854775807 ∧ Hid (IntsAt w (.slice A l2.length c) l2)) ∧ l2.length ≤ f ∧ l2.length + m ≤ 100000 ∧ ∃ F A c, so = .slice A m c ∧ ∃ rows, Hid (OutSt 25 F w wr (.slice A m c) rows) ∧ Hid (rows.length = m) ∧ Hid (X = rows ++ wordsTo g most f l2)) (fun sl _ _ => match sl with | .slice _ n _ => n | _ => 0)
  case atStart => exact ⟨l, l.length, 0, ⟨_, _, rfl, h2, HI⟩, Nat.le_refl _, hln, _, none, 0, rfl, [], HOT, Lib.hid rfl, HW0⟩
  case round =>
    clear HOT HI HW0
    obtain ⟨l2, f, m, ⟨A1, c1, rfl, hc1, HI⟩, hf, hlm, F, A2, c2, rfl, rows, HS, HRL, HX⟩ := hrel
    cases l2 with
    | nil =>
      have HE : Hid (rows = X) := Lib.hid (by have := HX.out; rw [wordsTo_nil, List.append_nil] at this; exact this.symm)
      have HT : Hid (∃ A c, Ending.returned (.slice A2 m c2) = .returned (.slice A X.length c) ∧ TabB w.heap.size wr (.slice A X.length c) X) := Lib.hid (by
        have h1 := HS.out.tabB
        rw [← HE.out, HRL.out]
        exact ⟨_, _, rfl, h1⟩)
      have HB := Lib.hid HS.out.below
      have hlen : (([] : List Int).length : Int) = 0 := rfl
      go_wp2_with fail
      go_ret
      exact ⟨HT.out, HB.out⟩
    | cons x l3 =>
      cases f with
      | zero => simp at hf
      | succ f =>
        have hTN : x % ((most + 1 : Nat) : Int) = ((x % ((most + 1 : Nat) : Int)).toNat : Int) := (Int.toNat_of_nonneg (Int.emod_nonneg x (by omega))).symm
        have hTB := Int.emod_lt_of_pos x (show (0 : Int) < ((most + 1 : Nat) : Int) by omega)
        have HTN : Hid (∀ W, Calls Try.prog 59 #[.int .i64 x, .int .i64 ((most : Int) + 1)] W fun e w' => e = .returned (.int .i64 ((x % ((most + 1 : Nat) : Int)).toNat : Int)) ∧ w' = W) := Lib.hid fun W => by
          rw [← hTN, show (most : Int) + 1 = ((most + 1 : Nat) : Int) by omega]
          exact turn59_any W x (most + 1) (by omega)
        have hstep : wordsTo g most (f + 1) (x :: l3) = wordOf g (l3.take (min (x % ((most + 1 : Nat) : Int)).toNat l3.length)) :: wordsTo g most f (l3.drop (min (x % ((most + 1 : Nat) : Int)).toNat l3.length)) := rfl
        have HX1 : Hid (X = rows ++ (wordOf g (l3.take (min (x % ((most + 1 : Nat) : Int)).toNat l3.length)) :: wordsTo g most f (l3.drop (min (x % ((most + 1 : Nat) : Int)).toNat l3.length)))) := Lib.hid (by rw [← hstep]; exact HX.out)
        generalize htz : (x % ((most + 1 : Nat) : Int)).toNat = tz at *
        have htm : tz ≤ most := by omega
        clear htz hTN hTB hstep HX
        have hll : (x :: l3).length = l3.length + 1 := rfl
        rw [hll] at HI hlm hf
        obtain ⟨n, hn⟩ : ∃ n, n = min tz l3.length := ⟨_, rfl⟩
        rw [← hn] at HX1
        have hnl : n ≤ l3.length := by omega
        have HN : Hid ((n : Int) = min (tz : Int) (l3.length : Int)) := Lib.hid (by omega)
        clear hn
        have hI : IntsAt w (.slice A1 (x :: l3).length c1) (x :: l3) := HI.out
        obtain ⟨A9, c9, e9, hq1, hq2, hq3⟩ := hI.open_
        obtain ⟨rfl, -, rfl⟩ := Value.slice.inj e9
        obtain ⟨b, o, rfl, hcc⟩ := hq3 (by simp)
        have hx0 := hcc 0 (by simp)
        have hxc := (HS.out.below.cell (p := ⟨b, o + 0, none⟩) (World.block_lt_of_cell? w _ hx0)).trans hx0
        have hxc' : wr.cell? ⟨b, o, none⟩ = some (.int .i64 x) := hxc
        obtain ⟨A3, hs1, hi1⟩ := ints_sliced (k := 1) (h := 1 + n) hI (by omega) (by simp; omega)
        obtain ⟨A4, hs2, hi2⟩ := ints_sliced (k := 1 + n) (h := l3.length + 1) hI (by omega) (by simp)
        have e1 : ((x :: l3).take (1 + n)).drop 1 = l3.take n := by rw [Nat.add_comm]; rfl
        have e2 : ((x :: l3).take (l3.length + 1)).drop (1 + n) = l3.drop n := by
          rw [show l3.length + 1 = (x :: l3).length from rfl, List.take_length, Nat.add_comm]; rfl
        have e3 : l3.length + 1 - (1 + n) = (l3.drop n).length := by rw [List.length_drop]; omega
        have e4 : 1 + n - 1 = n := by omega
        rw [e1] at hi1
        rw [e2, e3] at hi2
        rw [e4] at hi1 hs1
        rw [e3] at hs2
        have hcl : l3.length + 1 ≤ c1 := hq1
        have HI2 := Lib.hid hi2
        have HWO : Hid (Calls Try.prog 39 #[.slice A3 n (c1 - 1), .int .i64 (g : Int)] wr (WordPost (wordOf g (l3.take n)) wr)) := Lib.hid (wordOf39_any wr _ (l3.take n) g (kept_ints.below hi1 HS.out.below) (by omega) (by rw [List.length_take]; omega))
        have HFW := Lib.hid (fits_wordOf hg (l3.take n))
        have HL4 : Hid ((l3.drop n).length ≤ l3.length) := Lib.hid (by rw [List.length_drop]; omega)
        unfold WordPost at HWO
        generalize l3.take n = l5 at *
        generalize l3.drop n = l4 at *
        generalize wordOf g l5 = wd at *
        have hn0 : (0 : Int) ≤ (n : Int) := Int.natCast_nonneg _
        have hnI : (n : Int) ≤ (l3.length : Int) := by omega
        have hlI : (l3.length : Int) ≤ 100000 := by omega
        have htI : (tz : Int) ≤ 1000 := by omega
        have ht0 : (0 : Int) ≤ (tz : Int) := Int.natCast_nonneg _
        clear hcc hx0 hxc hi1 hi2 e1 e2 e4 hI e9 hq3 hll HI
        go_wp2_with (first
          | (go_at_call 59; (refine (HTN.out _).mono ?_); rintro e w1 ⟨rfl, rfl⟩)
          | ((with_reducible refine wpList_sel 21 ?_); refine wpList_val rfl (r_min2 (.tmp 17) (.tmp 20) _ _ (n : Int) rfl rfl rfl (by have := HN.out; omega)) ?_)
          | ((with_reducible refine wpList_sel 26 ?_); refine wpList_val rfl (r_slice_lohi (.tmp 23) (.const (.int .i64 1)) (.tmp 25) _ (l3.length + 1) c1 1 (1 + n) rfl rfl rfl rfl (by omega) (by omega)) ?_; rw [hs1])
          | (go_at_call 39; (refine HWO.out.mono ?_); rintro e w2 ⟨A5, c5, rfl, ho, hb⟩
             obtain ⟨A8, c8, w8, hr8, hS8⟩ := (HS.out.with_row hb ho).done (by decide) Try.underlying31 info25p HFW.out (by rw [HRL.out]; omega)
             rw [HRL.out] at hr8 hS8
             have HR8 := Lib.hid hr8
             have HS8 := Lib.hid hS8
             clear hr8 hS8 ho hb)
          | ((with_reducible refine wpList_sel 30 ?_); refine wpList_val rfl (r_app (.tmp 22) (.tmp 29) 31 rfl rfl rfl HR8.out) ?_)
          | ((with_reducible refine wpList_sel 34 ?_); refine wpList_val rfl (r_slice_lo (.tmp 31) (.tmp 33) _ (l3.length + 1) c1 (1 + n) rfl rfl rfl (by omega)) ?_; rw [show sliced (some ⟨b, o, none⟩) (1 + n) (l3.length + 1) c1 1 = _ from hs2]))
        go_roundw
        case rel => exact ⟨l4, f, m + 1, ⟨_, _, rfl, by omega, HI2⟩, by have := HL4.out; omega, by have := HL4.out; omega, _, _, _, rfl, rows ++ [wd], HS8, Lib.hid (by rw [List.length_append, HRL.out]; rfl), Lib.hid (by rw [HX1.out, List.append_assoc]; rfl)⟩
        case measure => have := HL4.out; simp; omega
end Go.Proofs
namespace Go.Proofs
open Go.RowKit Go.Shelf Go.Proofs.Ct Go.Maps
theorem tab_sliced {w : World} {A : Option Addr} {c h : Nat} {l : List W} (hT : Tab w (.slice A l.length c) l) (hh : h ≤ l.length) : ∃ A', sliced A 0 h c 1 = .slice A' h c ∧ Tab w (.slice A' h c) (l.take h) := by
  obtain ⟨vs, ⟨A0, n, cap, e, h1, h2, h3, h4⟩, hl, hr⟩ := hT
  obtain ⟨rfl, rfl, rfl⟩ := Value.slice.inj e
  refine ⟨_, rfl, vs.take h, ⟨_, h, c, rfl, by rw [List.length_take]; omega, by omega, h3, fun hp => ?_⟩, by rw [List.length_take, List.length_take]; omega, fun i hi => ?_⟩
  · obtain ⟨b, off, rfl, hr'⟩ := h4 (by omega)
    refine ⟨b, off, ?_, fun j v hj => hr' j v ?_⟩
    · rw [if_neg (by omega)]
      exact congrArg some (Addr.add_mid b off 0)
    · rw [List.getElem?_take] at hj
      split at hj
      · exact hj
      · cases hj
  · rw [List.length_take] at hi
    obtain ⟨u, hu, hx⟩ := hr i (by omega)
    refine ⟨u, by rw [List.getElem?_take, if_pos (by omega)]; exact hu, ?_⟩
    have : (l.take h).getD i [] = l.getD i [] := by
      rw [List.getD_eq_getElem?_getD, List.getElem?_take, if_pos (by omega), List.getD_eq_getElem?_getD]
    rw [this]
    exact hx
theorem tabB_sliced {base : Nat} {w : World} {A : Option Addr} {c h : Nat} {l : List W} (hT : TabB base w (.slice A l.length c) l) (hh : h ≤ l.length) : ∃ A', sliced A 0 h c 1 = .slice A' h c ∧ TabB base w (.slice A' h c) (l.take h) :=
  ⟨_, rfl, fun w' hw => by
    obtain ⟨A', e, ht⟩ := tab_sliced (hT w' hw) hh
    show Tab w' (sliced A 0 h c 1) _
    rw [e]
    exact ht⟩
/-- a word, so many times -/
def powW (x : List Int) : Nat → List Int
  | 0 => []
  | n + 1 => powW x n ++ x
theorem length_powW (x : List Int) : ∀ n, (powW x n).length = n * x.length
  | 0 => by simp [powW]
  | n + 1 => by rw [powW, List.length_append, length_powW x n, Nat.succ_mul]
set_option maxRecDepth 100000 in
set_option maxHeartbeats 1000000 in
theorem power112_any (w : World) (v : Value) (x : List Int) (n : Nat) (h : IntsAt w v x) (hn : n ≤ 1000) (hx : x.length ≤ 100) : Calls Try.prog 112 #[v, .int .i64 (n : Int)] w (WordPost (powW x n) w) := by
  obtain ⟨A, c, rfl, h1, h2, -⟩ := h.open_
  have HI := Lib.hid h
  have h0 : OwnI w.heap.size w (.slice none 0 0) [] := World.ownsRow_nil _ _ _ _
  have H0 : Hid (OwnI w.heap.size w (.slice none (powW x 0).length 0) (powW x 0)) := Lib.hid h0
  have hn0 : (0 : Int) ≤ (n : Int) := Int.natCast_nonneg _
  have hn1 : (n : Int) ≤ 1000 := by omega
  have HLN : Hid (∀ k, k ≤ n → (powW x k).length ≤ 100000) := Lib.hid fun k hk => by
    rw [length_powW]
    exact Nat.le_trans (Nat.mul_le_mul (Nat.le_trans hk hn) hx) (by omega)
  have HXL := Lib.hid hx
  clear h h0 hx
  unfold WordPost
  go_enter Try.func112, Try.ntmps112
  go_wp2_with fail
  go_loopw [5, 6] (fun so i wr => ∃ k : Nat, i = .int .i64 k ∧ k ≤ n ∧ ∃ m A c, so = .slice A m c ∧ Hid (m = (powW x k).length) ∧ Hid (OwnI w.heap.size wr (.slice A m c) (powW x k)) ∧ Hid (Below w.heap.size w wr)) (fun _ i _ => n - (intOf i).toNat)
  case atStart => exact ⟨0, rfl, by omega, 0, none, 0, rfl, Lib.hid rfl, H0, Lib.hid (Below.refl _ _)⟩
  case round =>
    clear H0
    obtain ⟨k, rfl, hk, m, A2, c2, rfl, HM, HO, HB⟩ := hrel
    have hk0 : (0 : Int) ≤ (k : Int) := Int.natCast_nonneg _
    by_cases hlt : k < n
    · have hlt' : (k : Int) < (n : Int) := by omega
      obtain ⟨A', c', w', hr, ho, hg, -⟩ := run_append_ints 25 25 Try.underlying25 wr w.heap.size _ _ (powW x k) x HO.out (kept_ints.below HI.out HB.out) (by have := HLN.out k hk; omega) (by have := HXL.out; omega) HB.out.size
      have HR := Lib.hid hr
      have HO' : Hid (OwnI w.heap.size w' (.slice A' (powW x k ++ x).length c') (powW x (k + 1))) := Lib.hid ho
      have HB' : Hid (Below w.heap.size w w') := Lib.hid (HB.out.grown hg HB.out.size fun r hr => (owns_block HO.out r hr).1)
      have HM' : Hid ((powW x k ++ x).length = (powW x (k + 1)).length) := Lib.hid rfl
      clear hr ho hg
      generalize (powW x k ++ x).length = m' at *
      go_wp2_with ((with_reducible refine wpList_sel 14 ?_); refine wpList_val rfl (r_app (.tmp 12) (.tmp 13) 25 rfl rfl rfl HR.out) ?_)
      go_roundw
      case rel => exact ⟨k + 1, by go_num, by omega, _, _, _, rfl, HM', HO', HB'⟩
      case measure => simp [intOf]; omega
    · obtain rfl : k = n := by omega
      have HE : Hid (∃ A c, Ending.returned (.slice A2 m c2) = .returned (.slice A (powW x k).length c) ∧ OwnI w.heap.size wr (.slice A (powW x k).length c) (powW x k) ∧ Below w.heap.size w wr) := Lib.hid ⟨A2, c2, by rw [← HM.out], by rw [← HM.out]; exact HO.out, HB.out⟩
      go_wp2_with fail
      go_ret
      exact HE.out
theorem r_slice_hi31 {o : Oper} {a : Act} {w : World} (x y : Operand) (A : Option Addr) (n c h : Nat) (ho : o.op = .slice 31 x none (some y) none) (hx : a.eval x = .slice A n c) (hy : a.eval y = .int .i64 (h : Int)) (hc : h ≤ c) : (execOp a.eval o).run Try.prog w = .ok (.value (sliced A 0 h c 1)) w := by
  have hu : Try.prog.underlying 31 = some (.slice (Try.prog.elem 31)) := by kernel_rfl
  have hs : (sizeOf (Try.prog.elem 31)).run Try.prog w = .ok 1 w := by kernel_rfl
  unfold execOp
  simp only [ho, hx, hy, Option.map_none, Option.map_some, Sem.run_bind, run_sliceAt_slice w 31 _ _ _ _ hu, run_slice_h w 31 A n c hu .i64 (h : Int) (by omega) (by omega)]
  simp [hs]
/-- the words of a law: the first m of those that numbers select -/
def lawWords (g m : Nat) (l : List Int) : List W := (wordsOf g 12 l).take m
def LawWordsPost (x : List W) (w : World) (e : Ending) (w' : World) : Prop := (∃ A c, e = .returned (.slice A x.length c) ∧ TabB w.heap.size w' (.slice A x.length c) x) ∧ Below w.heap.size w w'
theorem wordsTo_length (g most : Nat) : ∀ (f : Nat) (l : List Int), (wordsTo g most f l).length ≤ f
  | 0, _ => Nat.le_refl _
  | _ + 1, [] => Nat.zero_le _
  | f + 1, x :: l => by
    rw [wordsTo, List.length_cons]
    have := wordsTo_length g most f (l.drop (min (x % ((most + 1 : Nat) : Int)).toNat l.length))
    omega
set_option maxRecDepth 100000 in
set_option maxHeartbeats 1000000 in
theorem words58_any (w : World) (v : Value) (l : List Int) (g : Nat) (h : IntsAt w v l) (hg : 1 ≤ g ∧ g ≤ 400) (hl : l.length ≤ 100000) : Calls Try.prog 58 #[v, .int .i64 (g : Int)] w (LawWordsPost (lawWords g 6 l) w) := by
  have HC : Hid (Calls Try.prog 111 #[v, .int .i64 (g : Int), .int .i64 12] w (WordsPost (wordsOf g 12 l) w)) := Lib.hid (wordsOf111_any w v l g 12 h hg (by omega) hl)
  have hwl := wordsTo_length g 12 l.length l
  have hwl2 : (wordsOf g 12 l).length ≤ 100000 := Nat.le_trans hwl hl
  obtain ⟨A, c, rfl, h1, h2, -⟩ := h.open_
  clear h hwl
  unfold LawWordsPost lawWords
  unfold WordsPost at HC
  generalize wordsOf g 12 l = X at *
  have hxl : (X.length : Int) ≤ 100000 := by omega
  have hx0 : (0 : Int) ≤ (X.length : Int) := Int.natCast_nonneg _
  obtain ⟨n, hn⟩ : ∃ n, n = min X.length 6 := ⟨_, rfl⟩
  have hnx : n ≤ X.length := by omega
  have HN : Hid ((n : Int) = min (X.length : Int) 6) := Lib.hid (by omega)
  have HT : Hid ((X.take 6) = X.take n ∧ (X.take n).length = n) := Lib.hid (by
    rw [List.length_take]
    refine ⟨?_, by omega⟩
    rcases Nat.lt_or_ge X.length 6 with h | h
    · rw [List.take_of_length_le (by omega), List.take_of_length_le (by omega)]
    · rw [show n = 6 by omega])
  rw [HT.out.1]
  clear hn
  go_enter Try.func58, Try.ntmps58
  go_wp2_with (first
    | (go_at_call 111; (refine HC.out.mono ?_); rintro e w2 ⟨⟨A5, c5, rfl, ht⟩, hb⟩
       obtain ⟨A6, hs6, ht6⟩ := tabB_sliced ht hnx
       obtain ⟨A7, c7, e7, hc7, -, -⟩ := LAt.open_ ht.at_
       obtain ⟨rfl, -, rfl⟩ := Value.slice.inj e7
       have HE : Hid ((∃ A c, Ending.returned (.slice A6 n c5) = .returned (.slice A (X.take n).length c) ∧ TabB w.heap.size w2 (.slice A (X.take n).length c) (X.take n)) ∧ Below w.heap.size w w2) := Lib.hid ⟨⟨A6, c5, by rw [HT.out.2], by rw [HT.out.2]; exact ht6⟩, hb⟩
       clear ht hb ht6 e7)
    | ((with_reducible refine wpList_sel 12 ?_); refine wpList_val rfl (r_min2 (.tmp 11) (.const (.int .i64 6)) _ _ (n : Int) rfl rfl rfl (by have := HN.out; omega)) ?_)
    | ((with_reducible refine wpList_sel 13 ?_); refine wpList_val rfl (r_slice_hi31 (.tmp 9) (.tmp 12) _ X.length c5 n rfl rfl rfl (by omega)) ?_; rw [hs6]))
  go_ret
  exact HE.out
end Go.Proofs
namespace Go.Proofs
open Go.RowKit Go.Shelf Go.Proofs.Ct Go.Maps
section
variable {o : Oper} {a : Act} {w w' : World} {n : Nat} {next : Act → World → Prop} {Q : Exit → Act → World → Prop} {v : Value}
theorem wpW_skip (hrun : (execOp a.eval o).run Try.prog w = .ok .skip w') (h : next (a.put o.dst undef) w') : o.wpIn Fence.wide n Try.prog a w next Q :=
  ⟨fun _ _ => trivial, by rw [Fence.wide_round, Oper.semAt_none, hrun]; exact h⟩
theorem r_nil (x : Operand) (ad : Addr) (ho : o.op = .nilCheck x) (hx : a.eval x = .pointer (some ad)) : (execOp a.eval o).run Try.prog w = .ok (.value (.pointer (some ad))) w := by
  unfold execOp; simp only [ho, hx]; rfl
theorem agg3 (w : World) : (isAgg 3).run Try.prog w = .ok false w := by kernel_rfl
theorem agg22 (w : World) : (isAgg 22).run Try.prog w = .ok false w := by kernel_rfl
theorem agg24 (w : World) : (isAgg 24).run Try.prog w = .ok false w := by kernel_rfl
theorem r_load1 (T : TypeId) (hT : ∀ w, (isAgg T).run Try.prog w = .ok false w) (x : Operand) (ad : Addr) (ho : o.op = .load T x) (hx : a.eval x = .pointer (some ad)) (hc : w.cell? ad = some v) : (execOp a.eval o).run Try.prog w = .ok (.value v) w := by
  unfold execOp
  simp only [ho, hx, Instr.loadAt, Instr.sureAddr, loadVar, Sem.run_bind, Sem.run_pure, Result.andThen_ok, hT]
  simp [go_sem, hc]
theorem fld116_0 (b : Nat) (w : World) : (Instr.fieldAt 116 (.pointer (some ⟨b, 0, none⟩)) 0).run Try.prog w = .ok (.pointer (some ⟨b, 0, none⟩)) w := by kernel_rfl
theorem fld116_2 (b : Nat) (w : World) : (Instr.fieldAt 116 (.pointer (some ⟨b, 0, none⟩)) 2).run Try.prog w = .ok (.pointer (some ⟨b, 2, none⟩)) w := by kernel_rfl
theorem fld116_3 (b : Nat) (w : World) : (Instr.fieldAt 116 (.pointer (some ⟨b, 0, none⟩)) 3).run Try.prog w = .ok (.pointer (some ⟨b, 3, none⟩)) w := by kernel_rfl
theorem fld116_5 (b : Nat) (w : World) : (Instr.fieldAt 116 (.pointer (some ⟨b, 0, none⟩)) 5).run Try.prog w = .ok (.pointer (some ⟨b, 5, none⟩)) w := by kernel_rfl
theorem fld116_6 (b : Nat) (w : World) : (Instr.fieldAt 116 (.pointer (some ⟨b, 0, none⟩)) 6).run Try.prog w = .ok (.pointer (some ⟨b, 6, none⟩)) w := by kernel_rfl
theorem idx_sl {T E : TypeId} (hu : Try.prog.underlying T = some (.slice E)) (hs : ∀ w, (sizeOf E).run Try.prog w = .ok 1 w) (g m c i : Nat) (hi : i < m) (w : World) :
    (Instr.indexAt T (.slice (some ⟨g, 0, none⟩) m c) (.int .i64 (i : Int))).run Try.prog w = .ok (.pointer (some ⟨g, i, none⟩)) w := by
  have h1 : (0 : Int) ≤ (i : Int) ∧ (i : Int) < (m : Int) := ⟨by omega, by omega⟩
  have h2 := Addr.add_mid g 0 i
  rw [Nat.zero_add] at h2
  simp [Instr.indexAt, asIntOf, run_underlying hu, hs, h2, hi]
theorem size3 (w : World) : (sizeOf 3).run Try.prog w = .ok 1 w := by kernel_rfl
theorem size24 (w : World) : (sizeOf 24).run Try.prog w = .ok 1 w := by kernel_rfl
theorem r_idx {T : Nat} (x y : Operand) (ad i : Value) (ho : o.op = .indexAddr T x y) (hx : a.eval x = ad) (hy : a.eval y = i) (hf : (Instr.indexAt T ad i).run Try.prog w = .ok v w) : (execOp a.eval o).run Try.prog w = .ok (.value v) w := by
  unfold execOp; simp only [ho, hx, hy, Sem.run_bind, hf, Result.andThen_ok]; rfl
theorem r_store1 (T : TypeId) (x y : Operand) (ad : Addr) (u v : Value) (ho : o.op = .store T x y) (hx : a.eval x = .pointer (some ad)) (hy : a.eval y = v) (_h1 : ad.spot = none) (_hc : w.cell? ad = some u) (_hf : w.frozen? ad = false) (ht : (Instr.storeAt T (.pointer (some ad)) v).run Try.prog w = .ok () (w.setCell ad v)) : (execOp a.eval o).run Try.prog w = .ok .skip (w.setCell ad v) := by
  unfold execOp
  simp only [ho, hx, hy, Sem.run_bind, ht, Result.andThen_ok]
  rfl
theorem st3 (ad : Addr) (x y : Int) (hc : w.cell? ad = some (.int .i64 x)) (hf : w.frozen? ad = false) : (Instr.storeAt 3 (.pointer (some ad)) (.int .i64 y)).run Try.prog w = .ok () (w.setCell ad (.int .i64 y)) := by
  simp [Instr.storeAt, Instr.sureAddr, go_sem, hc, hf]
theorem st24 (ad : Addr) (u : Value) (A : Option Addr) (m c : Nat) (hc : w.cell? ad = some u) (hf : w.frozen? ad = false) : (Instr.storeAt 24 (.pointer (some ad)) (.slice A m c)).run Try.prog w = .ok () (w.setCell ad (.slice A m c)) := by
  simp [Instr.storeAt, Instr.sureAddr, go_sem, hc, hf]
theorem st22 (ad : Addr) (u : Value) (A : Option Addr) (m c : Nat) (hc : w.cell? ad = some u) (hf : w.frozen? ad = false) : (Instr.storeAt 22 (.pointer (some ad)) (.slice A m c)).run Try.prog w = .ok () (w.setCell ad (.slice A m c)) := by
  simp [Instr.storeAt, Instr.sureAddr, go_sem, hc, hf]
end
end Go.Proofs
namespace Go.Proofs
open Go.RowKit Go.Shelf Go.Proofs.Ct Go.Maps
/-- the program's state: its box b, width wd, limit lim -/
structure BoxP (b wd lim : Nat) (w : World) (s : St) (vr vp vq : Value) : Prop where
  box : w.heap[b]? = some (.cells #[.int .i64 (wd : Int), .int .i64 (lim : Int), vr, vp, vq, .int .i64 s.live, .int .i64 s.most] 116 (0, 0))
theorem BoxP.cells {b wd lim : Nat} {w : World} {s : St} {vr vp vq : Value} (h : BoxP b wd lim w s vr vp vq) : w.cell? ⟨b, 0, none⟩ = some (.int .i64 (wd : Int)) ∧ w.cell? ⟨b, 1, none⟩ = some (.int .i64 (lim : Int)) ∧ w.cell? ⟨b, 2, none⟩ = some vr ∧ w.cell? ⟨b, 3, none⟩ = some vp ∧ w.cell? ⟨b, 4, none⟩ = some vq ∧ w.cell? ⟨b, 5, none⟩ = some (.int .i64 s.live) ∧ w.cell? ⟨b, 6, none⟩ = some (.int .i64 s.most) := by
  have hc := h.box
  refine ⟨?_, ?_, ?_, ?_, ?_, ?_, ?_⟩ <;> (rw [cell_of_row _ _ _ _ _ _ hc]; rfl)
theorem BoxP.below {b wd lim : Nat} {w w' : World} {s : St} {vr vp vq : Value} (h : BoxP b wd lim w s vr vp vq) (hb : Below w.heap.size w w') : BoxP b wd lim w' s vr vp vq := ⟨(hb.block _ (Array.getElem?_eq_some_iff.1 h.box).1).trans h.box⟩
theorem BoxP.other {b wd lim : Nat} {w : World} {s : St} {vr vp vq : Value} (h : BoxP b wd lim w s vr vp vq) {g : Nat} {T : TypeId} (hg : ∃ C, w.heap[g]? = some (.cells C T (0, 0))) (hT : T ≠ 116) (k : Nat) (v : Value) : BoxP b wd lim (w.setCell ⟨g, k, none⟩ v) s vr vp vq :=
  ⟨(Below.heap_setCell w ⟨g, k, none⟩ v b (fun e => by
    obtain ⟨C, hC⟩ := hg
    have e' : b = g := e
    have := h.box
    rw [e', hC] at this
    cases this
    exact hT rfl)).trans h.box⟩
/-- the state behind some steps that shorten ways -/
def HeldP (base b wd lim : Nat) (w : World) (s : St) (vr vp vq : Value) (bl cs : Nat → Nat) (wr : World) : Prop := ∃ P', BoxP b wd lim wr s vr vp vq ∧ CoreM base wr s P' vr vp vq bl cs ∧ Below base w wr
/-- the program's state in memory -/
def StP (base b wd lim : Nat) (w : World) (s : St) : Prop := base ≤ b ∧ ∃ P vr vp vq bl cs, BoxP b wd lim w s vr vp vq ∧ CoreM base w s P vr vp vq bl cs
set_option maxRecDepth 100000 in
set_option maxHeartbeats 1000000 in
theorem find156_any (g base b wd lim c : Nat) (w : World) (s : St) (hI : Inv g s) (hS : StP base b wd lim w s) (hc : c < s.t.length) (hn : s.t.length ≤ 1000000) :
    Calls Try.prog 156 #[.pointer (some ⟨b, 0, none⟩), .int .i64 (c : Int)] w fun e w' => e = .returned (.int .i64 (s.rp c : Int)) ∧ StP base b wd lim w' s ∧ Below base w w' := by
  obtain ⟨hb, P, vr, vp, vq, bl, cs, hB, hC⟩ := hS
  obtain ⟨gp, cp, rfl, hg1, hg2, -, -⟩ := ownI_cell hC.par (by rw [hC.len]; omega)
  have HB := Lib.hid hB
  have HC := Lib.hid hC
  have HI := Lib.hid hI
  have hPl := hC.len
  rw [hPl] at HB HC
  have HBB := Lib.hid hb
  have HBW : Hid (base ≤ w.heap.size) := Lib.hid (by omega)
  have hbs : b < w.heap.size := (Array.getElem?_eq_some_iff.1 hB.box).1
  have HRC := Lib.hid (hC.root.root c hc)
  obtain ⟨c0, c1, c2, c3, c4, c5, c6⟩ := hB.cells
  rw [hPl] at c3
  have hn0 : (s.t.length : Int) ≤ 1000000 := by omega
  clear hB hC hI hPl c0 c1 c2 c4 c5 c6
  go_enter Try.func156, Try.ntmps156
  go_wp2_with fail
  go_step3
  go_wp2_with fail
  go_step3
  go_wp2_with fail
  go_loopw [5] (fun i wr => ∃ r : Nat, i = .int .i64 r ∧ r < s.t.length ∧ Hid (Root P r (s.rp c)) ∧ w = wr) (fun i _ => (intOf i).toNat)
  case atStart => exact ⟨c, rfl, hc, HRC, rfl⟩
  case round =>
    obtain ⟨r, rfl, hr, HR, rfl⟩ := hrel
    have hr0 : (0 : Int) ≤ (r : Int) := Int.natCast_nonneg _
    have hrI : (r : Int) < (s.t.length : Int) := by omega
    obtain ⟨y, hy, hyx, hyr, hyi⟩ := HR.out.parent
    have hck := (ownI_at HC.out.par (k := r) (by rw [HC.out.len]; exact hr)).1
    rw [hy] at hck
    have HYR := Lib.hid hyr
    have HYI := Lib.hid hyi
    clear hy hyr hyi
    by_cases hyx2 : y = r
    · subst hyx2
      have HE : Hid (s.rp c = y) := Lib.hid (HYI.out.1 rfl)
      go_wp2_with fail
      go_loopw [1] (fun i wr => ∃ c' : Nat, i = .int .i64 c' ∧ c' < s.t.length ∧ Hid (s.rp c' = y) ∧ Hid (HeldP base b wd lim w s vr (.slice (some ⟨gp, 0, none⟩) s.t.length cp) vq bl cs wr)) (fun i _ => (intOf i).toNat)
      case atStart => exact ⟨c, rfl, hc, HE, Lib.hid ⟨P, HB.out, HC.out, Below.refl _ _⟩⟩
      case round =>
        clear hck c3 HR HYR HYI
        obtain ⟨c', rfl, hc', HR, HW⟩ := hrel
        obtain ⟨P', hB, hC, hbel⟩ := HW.out
        have hc0 : (0 : Int) ≤ (c' : Int) := Int.natCast_nonneg _
        have hcI : (c' : Int) < (s.t.length : Int) := by omega
        obtain ⟨z, hz, hzx, hzr, hzi⟩ := (hC.root.root c' hc').parent
        obtain ⟨hck, hfk⟩ := ownI_at hC.par (k := c') (by rw [hC.len]; exact hc')
        rw [hz] at hck
        obtain ⟨-, -, -, c3, -, -, -⟩ := hB.cells
        have HBx := Lib.hid hB
        have HCx := Lib.hid hC
        have HBE := Lib.hid hbel
        have HZR := Lib.hid hzr
        have HZI := Lib.hid hzi
        clear hB hC hbel hz hzr hzi HW
        by_cases hzy : z = y
        · subst hzy
          have d2 : ((z : Int) != (z : Int)) = false := by simp
          go_wp2_with fail
          try rw [Exit.noGoto_ret]
          go_ret
          exact ⟨ret_int (by rw [HE.out]), ⟨HBB.out, P', vr, _, vq, bl, cs, HBx.out, HCx.out⟩, HBE.out⟩
        · have d2 : ((z : Int) != (y : Int)) = true := by simp; omega
          have hzl : z < c' := by
            rcases Nat.lt_or_ge z c' with h | h
            · exact h
            · have h1 : z = c' := by omega
              have h2 := HZI.out.1 h1
              rw [HR.out] at h2
              omega
          have HZ := Lib.hid hzy
          clear hzy
          go_wp2_with fail
          refine (wpIn_wide (n := 3)).1 ?_
          have HCK : Hid (wr.drew.cell? ⟨gp, c', none⟩ = some (.int .i64 (z : Int))) := Lib.hid hck
          have HFK : Hid (wr.drew.frozen? ⟨gp, c', none⟩ = false) := Lib.hid hfk
          have HC3 : Hid (wr.drew.cell? ⟨b, 3, none⟩ = some (.slice (some ⟨gp, 0, none⟩) s.t.length cp)) := Lib.hid c3
          refine wpIn_region_all (by kernel_rfl) 16 rfl (fun i => if i < 14 then some (32 + i) else if i = 14 then none else some 1) (lex_of (by kernel_rfl)) (fun ls W => W = bif ls 14 then wr.drew.setCell ⟨gp, c', none⟩ (.int .i64 (y : Int)) else wr.drew)
            (fun i v _ => v = ([.pointer (some ⟨b, 0, none⟩), .pointer (some ⟨b, 0, none⟩), .pointer (some ⟨b, 3, none⟩), .slice (some ⟨gp, 0, none⟩) s.t.length cp, .int .i64 (c' : Int), .int .i64 (y : Int), .pointer (some ⟨b, 0, none⟩), .pointer (some ⟨b, 0, none⟩), .pointer (some ⟨b, 3, none⟩), .slice (some ⟨gp, 0, none⟩) s.t.length cp, .int .i64 (c' : Int), .pointer (some ⟨gp, c', none⟩), .int .i64 (z : Int), .pointer (some ⟨gp, c', none⟩), undef, .int .i64 (z : Int)] : List Value).getD i undef) (fun _ _ _ => True) (dm_inj (by kernel_rfl)) (fun _ _ _ _ _ _ _ _ _ h => h) (dm_lt (n := 47) (by kernel_rfl)) rfl ?_ ?_
          · intro ls q o a w2 hq ho hS2 hls hcl hP hpre
            have hcases : q = 0 ∨ q = 1 ∨ q = 2 ∨ q = 3 ∨ q = 4 ∨ q = 5 ∨ q = 6 ∨ q = 7 ∨ q = 8 ∨ q = 9 ∨ q = 10 ∨ q = 11 ∨ q = 12 ∨ q = 13 ∨ q = 14 ∨ q = 15 := by
              have : q < 16 := hq
              omega
            rcases hcases with rfl | rfl | rfl | rfl | rfl | rfl | rfl | rfl | rfl | rfl | rfl | rfl | rfl | rfl | rfl | rfl
            · obtain rfl := Option.some.inj ho
              exact wpOpIn_of rfl rfl (wpW_val (r_move (.tmp 0) rfl (hP.out 0 (dm_out (by kernel_rfl)))) ⟨_, rfl, hS2, trivial, (fun h => by simp at h), rfl⟩)
            · obtain rfl := Option.some.inj ho
              exact wpOpIn_of rfl rfl (wpW_val (r_nil (.tmp 32) _ rfl (hpre ⟨0, .data⟩ (by simp) rfl).2) ⟨_, rfl, hS2, trivial, (fun h => by simp at h), rfl⟩)
            · obtain rfl := Option.some.inj ho
              exact wpOpIn_of rfl rfl (wpW_val (r_fld (.tmp 33) _ rfl (hpre ⟨1, .data⟩ (by simp) rfl).2 (fld116_3 b _)) ⟨_, rfl, hS2, trivial, (fun h => by simp at h), rfl⟩)
            · obtain rfl := Option.some.inj ho
              have h14 := not_yet hcl 14 rfl ⟨3, .phase⟩ (by simp) rfl hls
              rw [h14] at hS2
              subst hS2
              exact wpOpIn_of rfl rfl (wpW_val (r_load1 24 agg24 (.tmp 34) ⟨b, 3, none⟩ rfl (hpre ⟨2, .data⟩ (by simp) rfl).2 HC3.out) ⟨_, rfl, (by rw [← h14]; rfl), trivial, (fun h => by simp at h), rfl⟩)
            · obtain rfl := Option.some.inj ho
              have h15 := not_yet hcl 15 rfl ⟨4, .phase⟩ (by simp) rfl hls
              exact wpOpIn_of rfl rfl (wpW_val (r_move (.tmp 1) rfl (hP.out 1 (dm_out1 h15 (by kernel_rfl)))) ⟨_, rfl, hS2, trivial, (fun h => by simp at h), rfl⟩)
            · obtain rfl := Option.some.inj ho
              exact wpOpIn_of rfl rfl (wpW_val (r_move (.tmp 5) rfl (hP.out 5 (dm_out (by kernel_rfl)))) ⟨_, rfl, hS2, trivial, (fun h => by simp at h), rfl⟩)
            · obtain rfl := Option.some.inj ho
              exact wpOpIn_of rfl rfl (wpW_val (r_move (.tmp 0) rfl (hP.out 0 (dm_out (by kernel_rfl)))) ⟨_, rfl, hS2, trivial, (fun h => by simp at h), rfl⟩)
            · obtain rfl := Option.some.inj ho
              exact wpOpIn_of rfl rfl (wpW_val (r_nil (.tmp 38) _ rfl (hpre ⟨6, .data⟩ (by simp) rfl).2) ⟨_, rfl, hS2, trivial, (fun h => by simp at h), rfl⟩)
            · obtain rfl := Option.some.inj ho
              exact wpOpIn_of rfl rfl (wpW_val (r_fld (.tmp 39) _ rfl (hpre ⟨7, .data⟩ (by simp) rfl).2 (fld116_3 b _)) ⟨_, rfl, hS2, trivial, (fun h => by simp at h), rfl⟩)
            · obtain rfl := Option.some.inj ho
              have h14 := not_yet hcl 14 rfl ⟨9, .phase⟩ (by simp) rfl hls
              rw [h14] at hS2
              subst hS2
              exact wpOpIn_of rfl rfl (wpW_val (r_load1 24 agg24 (.tmp 40) ⟨b, 3, none⟩ rfl (hpre ⟨8, .data⟩ (by simp) rfl).2 HC3.out) ⟨_, rfl, (by rw [← h14]; rfl), trivial, (fun h => by simp at h), rfl⟩)
            · obtain rfl := Option.some.inj ho
              have h15 := not_yet hcl 15 rfl ⟨10, .phase⟩ (by simp) rfl hls
              exact wpOpIn_of rfl rfl (wpW_val (r_move (.tmp 1) rfl (hP.out 1 (dm_out1 h15 (by kernel_rfl)))) ⟨_, rfl, hS2, trivial, (fun h => by simp at h), rfl⟩)
            · obtain rfl := Option.some.inj ho
              exact wpOpIn_of rfl rfl (wpW_val (r_idx (.tmp 41) (.tmp 42) _ _ rfl (hpre ⟨9, .data⟩ (by simp) rfl).2 (hpre ⟨10, .data⟩ (by simp) rfl).2 (idx_sl Try.underlying24 size3 gp _ cp c' hc' _)) ⟨_, rfl, hS2, trivial, (fun h => by simp at h), rfl⟩)
            · obtain rfl := Option.some.inj ho
              have h14 := not_yet hcl 14 rfl ⟨12, .phase⟩ (by simp) rfl hls
              rw [h14] at hS2
              subst hS2
              exact wpOpIn_of rfl rfl (wpW_val (r_load1 3 agg3 (.tmp 43) ⟨gp, c', none⟩ rfl (hpre ⟨11, .data⟩ (by simp) rfl).2 HCK.out) ⟨_, rfl, (by rw [← h14]; rfl), trivial, (fun h => by simp at h), rfl⟩)
            · obtain rfl := Option.some.inj ho
              exact wpOpIn_of rfl rfl (wpW_val (r_idx (.tmp 35) (.tmp 36) _ _ rfl (hpre ⟨3, .data⟩ (by simp) rfl).2 (hpre ⟨4, .data⟩ (by simp) rfl).2 (idx_sl Try.underlying24 size3 gp _ cp c' hc' _)) ⟨_, rfl, hS2, trivial, (fun h => by simp at h), rfl⟩)
            · obtain rfl := Option.some.inj ho
              rw [hls] at hS2
              subst hS2
              exact wpOpIn_of rfl rfl (wpW_skip (r_store1 3 (.tmp 45) (.tmp 37) _ _ _ rfl (hpre ⟨13, .data⟩ (by simp) rfl).2 (hpre ⟨5, .data⟩ (by simp) rfl).2 rfl HCK.out HFK.out (st3 _ _ _ HCK.out HFK.out)) ⟨undef, rfl, rfl, trivial, fun _ => rfl, rfl⟩)
            · obtain rfl := Option.some.inj ho
              exact wpOpIn_of rfl rfl (wpW_val (r_assign (.tmp 44) rfl (hpre ⟨12, .data⟩ (by simp) rfl).2) ⟨_, rfl, hS2, trivial, (fun h => by simp at h), rfl⟩)
          · intro ls a w2 hall hS2 hP hsl
            have h14 : ls 14 = true := hall 14 (by decide)
            rw [h14] at hS2
            obtain ⟨vs, hvs, hfr⟩ := hP.frame 47 rfl
            have h1 : vs 1 = .int .i64 (z : Int) := (hvs 1).trans (hsl 15 (by decide))
            have hd := (Below.refl wr.heap.size wr).drew
            have hC2 := (HCx.out.below hd).setP (g := gp) rfl (x := c') (by rw [HCx.out.len]; exact hc') (y : Int) (s' := s) rfl rfl (by rw [← HR.out]; exact HCx.out.root.short hc')
            have hB2 := (HBx.out.below hd).other (owns_block (owns_below HCx.out.par hd) gp rfl).2 (by decide) c' (.int .i64 (y : Int))
            have hbel2 : Below base w (wr.drew.setCell ⟨gp, c', none⟩ (.int .i64 (y : Int))) := (HBE.out.trans (hd.mono (Nat.le_trans HBW.out HBE.out.size))).setCell (by exact hg1) _
            have HW2 : Hid (HeldP base b wd lim w s vr (.slice (some ⟨gp, 0, none⟩) s.t.length cp) vq bl cs (wr.drew.setCell ⟨gp, c', none⟩ (.int .i64 (y : Int)))) := Lib.hid ⟨_, hB2, hC2, hbel2⟩
            have HZ2 : Hid (s.rp z = y) := Lib.hid (by
              have h1 := HCx.out.root.root z (by omega)
              rw [h1.unique HZR.out, HR.out])
            clear hsl hP hall h14 hvs hd hC2 hB2 hbel2
            subst hfr
            subst hS2
            dsimp only
            simp only [List.range, List.range.loop, List.map_cons, List.map_nil, List.any_cons, List.any_nil, Nat.reduceAdd, Nat.reduceBEq, Nat.reduceLT, Nat.reduceEqDiff, Option.some_beq_some, Bool.or_false, Bool.or_true, if_true, if_false, List.getD_cons_zero, List.getD_cons_succ, h1, cond_true]
            generalize hw2 : wr.drew.setCell ⟨gp, c', none⟩ (.int .i64 (y : Int)) = w9 at *
            clear hw2
            go_wp2_with fail
            go_roundw
            case rel => first | exact ⟨z, rfl, by omega, HZ2, HW2⟩ | exact ⟨z, rfl, by omega, HZ2⟩
            case measure => simp [intOf]; omega
    · have d1 : ((y : Int) == (r : Int)) = false := by rw [beq_eq_false_iff_ne]; omega
      have hyl : y < r := by omega
      clear hyx2
      go_wp2_with fail
      go_roundw
      case rel => exact ⟨y, rfl, by omega, HYR, (by first | trivial | rfl)⟩
      case measure => simp [intOf]; omega
end Go.Proofs
namespace Go.Proofs
open Go.RowKit Go.Shelf Go.Proofs.Ct Go.Maps
theorem box_set {w : World} {b : Nat} {C : Array Value} {T : TypeId} (hb : w.heap[b]? = some (.cells C T (0, 0))) (k : Nat) (v : Value) : (w.setCell ⟨b, k, none⟩ v).heap[b]? = some (.cells (C.setIfInBounds k v) T (0, 0)) := by
  simp [World.setCell, Array.getElem?_modify, hb]
section
variable {b wd lim : Nat} {w : World} {s s' : St} {vr vp vq : Value}
theorem BoxP.upd2 (h : BoxP b wd lim w s vr vp vq) (v : Value) (hl : s'.live = s.live) (hm : s'.most = s.most) : BoxP b wd lim (w.setCell ⟨b, 2, none⟩ v) s' v vp vq := ⟨by rw [box_set h.box]; simp [hl, hm]⟩
theorem BoxP.upd3 (h : BoxP b wd lim w s vr vp vq) (v : Value) (hl : s'.live = s.live) (hm : s'.most = s.most) : BoxP b wd lim (w.setCell ⟨b, 3, none⟩ v) s' vr v vq := ⟨by rw [box_set h.box]; simp [hl, hm]⟩
theorem BoxP.upd4 (h : BoxP b wd lim w s vr vp vq) (v : Value) (hl : s'.live = s.live) (hm : s'.most = s.most) : BoxP b wd lim (w.setCell ⟨b, 4, none⟩ v) s' vr vp v := ⟨by rw [box_set h.box]; simp [hl, hm]⟩
theorem BoxP.upd5 (h : BoxP b wd lim w s vr vp vq) {z : Int} (hl : s'.live = z) (hm : s'.most = s.most) : BoxP b wd lim (w.setCell ⟨b, 5, none⟩ (.int .i64 z)) s' vr vp vq := ⟨by rw [box_set h.box]; simp [hl, hm]⟩
theorem BoxP.upd6 (h : BoxP b wd lim w s vr vp vq) {z : Int} (hl : s'.live = s.live) (hm : s'.most = z) : BoxP b wd lim (w.setCell ⟨b, 6, none⟩ (.int .i64 z)) s' vr vp vq := ⟨by rw [box_set h.box]; simp [hl, hm]⟩
theorem BoxP.frozen (h : BoxP b wd lim w s vr vp vq) (k : Nat) : w.frozen? ⟨b, k, none⟩ = false := by simp [World.frozen?, h.box]
theorem BoxP.lt (h : BoxP b wd lim w s vr vp vq) : b < w.heap.size := (Array.getElem?_eq_some_iff.1 h.box).1
theorem BoxP.of (h : BoxP b wd lim w s vr vp vq) (hl : s'.live = s.live) (hm : s'.most = s.most) : BoxP b wd lim w s' vr vp vq := ⟨by rw [hl, hm]; exact h.box⟩
end
theorem alive127_any (_g base b wd lim r : Nat) (w : World) (s : St) (hS : StP base b wd lim w s) (hr : r < s.t.length) :
    Calls Try.prog 127 #[.pointer (some ⟨b, 0, none⟩), .int .i64 (r : Int)] w fun e w' => e = .returned (.bool (decide (s.rp r = r))) ∧ w' = w := by
  obtain ⟨hb, P, vr, vp, vq, bl, cs, hB, hC⟩ := hS
  obtain ⟨gp, cp, rfl, -, -, hcc, -⟩ := ownI_cell hC.par (by rw [hC.len]; omega)
  have hck := hcc r (by rw [hC.len]; exact hr)
  obtain ⟨y, hy, -, -, hyi⟩ := (hC.root.root r hr).parent
  rw [hy] at hck
  obtain ⟨-, -, -, c3, -, -, -⟩ := hB.cells
  rw [hC.len] at c3
  have hr0 : (0 : Int) ≤ (r : Int) := Int.natCast_nonneg _
  have hrI : (r : Int) < (s.t.length : Int) := by omega
  have HYI := Lib.hid hyi
  clear hB hC hcc hy hyi
  by_cases h : y = r
  · have HD : Hid (decide (s.rp r = r) = true) := Lib.hid (decide_eq_true (HYI.out.1 h))
    have d1 : ((y : Int) == (r : Int)) = true := by rw [h]; simp
    clear h
    generalize decide (s.rp r = r) = x at *
    go_enter Try.func127, Try.ntmps127
    go_wp2_with fail
    go_ret
    exact ⟨ret_bool HD.out.symm, (by first | trivial | rfl)⟩
  · have HD : Hid (decide (s.rp r = r) = false) := Lib.hid (decide_eq_false fun h' => h (HYI.out.2 h'))
    have d1 : ((y : Int) == (r : Int)) = false := by rw [beq_eq_false_iff_ne]; omega
    clear h
    generalize decide (s.rp r = r) = x at *
    go_enter Try.func127, Try.ntmps127
    go_wp2_with fail
    go_ret
    exact ⟨ret_bool HD.out.symm, (by first | trivial | rfl)⟩
set_option maxRecDepth 100000 in
set_option maxHeartbeats 1000000 in
theorem join149_any (g base b wd lim u c v : Nat) (w : World) (s : St) (hI : Inv g s) (hg : g ≤ 16) (hS : StP base b wd lim w s) (_hbw : base ≤ w.heap.size) (hu : u < s.t.length) (hv : v < s.t.length) (hc : c < 2 * g) (_hn : s.t.length ≤ 1000000) :
    Calls Try.prog 149 #[.pointer (some ⟨b, 0, none⟩), .int .i64 (u : Int), .int .i64 (c : Int), .int .i64 (v : Int)] w fun e w' => e = .returned (.tuple #[]) ∧ StP base b wd lim w' (joinS s u c v) ∧ Below base w w' := by
  obtain ⟨hb, P, vr, vp, vq, bl, cs, hB, hC⟩ := hS
  have hlu := hI.len u hu
  have hlv := hI.len v hv
  have hf := flp_lt2 hc
  obtain ⟨gr, cr, rfl, r1, r2, r3⟩ := hC.at_ hu (c := c) (by omega)
  have hC1 := hC.set hu (c := c) (by omega) (v : Int)
  obtain ⟨-, Cu, hCu⟩ : True ∧ ∃ C, w.heap[bl u]? = some (.cells C 3 (0, 0)) := by obtain ⟨-, ⟨C, h, -⟩, -⟩ := hC.row u hu; exact ⟨trivial, C, h⟩
  have hB1 := hB.other ⟨Cu, hCu⟩ (by decide) c (.int .i64 (v : Int))
  have hbu := (hC.row u hu).1
  obtain ⟨gr', cr', e', q1, q2, q3⟩ := hC1.at_ (r := v) (c := flp c) (by simpa [length_set2] using hv) (by simp only [rowlen_set2]; omega)
  have e1 : gr = gr' := by have := congrArg Value.ownBlock e'; simpa [Value.ownBlock] using this
  subst e1
  have hlen1 : ({ s with t := set2 s.t u c (v : Int) } : St).t.length = s.t.length := length_set2 _ _ _ _
  have hC2 := hC1.set (r := v) (c := flp c) (by rw [hlen1]; exact hv) (by simp only [rowlen_set2]; omega) (u : Int)
  obtain ⟨-, Cv, hCv⟩ : True ∧ ∃ C, (w.setCell ⟨bl u, c, none⟩ (.int .i64 (v : Int))).heap[bl v]? = some (.cells C 3 (0, 0)) := by obtain ⟨-, ⟨C, h, -⟩, -⟩ := hC1.row v (by rw [hlen1]; exact hv); exact ⟨trivial, C, h⟩
  have hB2 := hB1.other ⟨Cv, hCv⟩ (by decide) (flp c) (.int .i64 (u : Int))
  have hbv := (hC.row v hv).1
  obtain ⟨-, -, b2, -, -, -, -⟩ := hB.cells
  obtain ⟨-, -, b3, -, -, -, -⟩ := hB1.cells
  have HST : Hid (StP base b wd lim ((w.setCell ⟨bl u, c, none⟩ (.int .i64 (v : Int))).setCell ⟨bl v, flp c, none⟩ (.int .i64 (u : Int))) (joinS s u c v)) := Lib.hid ⟨hb, P, _, vp, vq, bl, cs, hB2.of rfl rfl, hC2⟩
  have HBE : Hid (Below base w ((w.setCell ⟨bl u, c, none⟩ (.int .i64 (v : Int))).setCell ⟨bl v, flp c, none⟩ (.int .i64 (u : Int)))) := Lib.hid (((Below.refl base w).setCell hbu _).setCell hbv _)
  have hfe := flp_eq c (by omega)
  have hc0 : (0 : Int) ≤ (c : Int) := Int.natCast_nonneg _
  have hc1 : (c : Int) < ((s.t.row u).length : Int) := by omega
  have hf0 : (0 : Int) ≤ ((flp c : Nat) : Int) := Int.natCast_nonneg _
  have hf1 : ((flp c : Nat) : Int) < ((s.t.row v).length : Int) := by omega
  have hu0 : (0 : Int) ≤ (u : Int) := Int.natCast_nonneg _
  have hv0 : (0 : Int) ≤ (v : Int) := Int.natCast_nonneg _
  have hu1 : (u : Int) < (s.t.length : Int) := by omega
  have hv1 : (v : Int) < (s.t.length : Int) := by omega
  simp only [rowlen_set2] at q1
  clear hC hC1 hC2 hB hB1 hB2 hCu hCv hlen1 e' hI hlu hlv
  generalize (s.t.row u).length = lu at *
  generalize (s.t.row v).length = lv at *
  generalize s.t.at u c = x1 at *
  generalize ({ s with t := set2 s.t u c (v : Int) } : St).t.at v (flp c) = x2 at *
  go_enter Try.func149, Try.ntmps149
  go_wp2_with fail
  go_end0
  exact ⟨rfl, HST.out, HBE.out⟩
end Go.Proofs
namespace Go.Proofs
open Go.RowKit Go.Shelf Go.Proofs.Ct Go.Maps
theorem BoxP.grown {b wd lim : Nat} {w w' : World} {s : St} {vr vp vq : Value} (h : BoxP b wd lim w s vr vp vq) {o : Option Nat} (hg : w.grownBy w' o) (hn : o ≠ some b) : BoxP b wd lim w' s vr vp vq := ⟨(hg.block b h.lt (Ne.symm hn)).trans h.box⟩
theorem CoreM.ne_box {base b wd lim : Nat} {w : World} {s s' : St} {P : List Int} {vr vp vq v1 v2 v3 : Value} {bl cs : Nat → Nat} (h : CoreM base w s P vr vp vq bl cs) (hB : BoxP b wd lim w s' v1 v2 v3) : vp.ownBlock ≠ some b ∧ vq.ownBlock ≠ some b ∧ vr.ownBlock ≠ some b ∧ ∀ i, i < s.t.length → bl i ≠ b := by
  refine ⟨fun e => ?_, fun e => ?_, fun e => ?_, fun i hi e => ?_⟩
  · obtain ⟨-, C, hC⟩ := owns_block h.par b e
    rw [hB.box] at hC
    cases hC
  · obtain ⟨-, C, hC⟩ := owns_block h.que b e
    rw [hB.box] at hC
    cases hC
  · obtain ⟨-, C, hC⟩ := owns_block h.out b e
    rw [hB.box] at hC
    cases hC
  · obtain ⟨-, ⟨C, hC, -⟩, -⟩ := h.row i hi
    rw [e, hB.box] at hC
    cases hC
/-- what merging two classes writes -/
theorem merge_mem {g base b wd lim x y : Nat} {w : World} {s : St} {P : List Int} {vr vp vq : Value} {bl cs : Nat → Nat} (hI : Inv g s) (hb : base ≤ b) (hbw : base ≤ w.heap.size) (hB : BoxP b wd lim w s vr vp vq) (hC : CoreM base w s P vr vp vq bl cs) (hx : x < s.t.length) (hy : y < s.t.length) (hne : s.rp x ≠ s.rp y) (hq : s.q.length ≤ 1000000)
    (hi lo : Nat) (hhi : hi = max (s.rp x) (s.rp y)) (hlo : lo = min (s.rp x) (s.rp y)) :
    ∃ gp cp, vp = .slice (some ⟨gp, 0, none⟩) s.t.length cp ∧ w.cell? ⟨gp, hi, none⟩ = some (.int .i64 (P.getD hi 0)) ∧ w.frozen? ⟨gp, hi, none⟩ = false ∧ hi < s.t.length ∧
      (w.setCell ⟨gp, hi, none⟩ (.int .i64 (lo : Int))).cell? ⟨b, 4, none⟩ = some vq ∧ ∃ A c w4, (Builtin.append_ #[24, 24] 24 #[vq, .slice (some ⟨w.heap.size, 0, none⟩) 1 1]).run Try.prog ((w.setCell ⟨gp, hi, none⟩ (.int .i64 (lo : Int))).alloc (.cells #[.int .i64 (hi : Int)] 3)) = .ok (.slice A (s.q.length + 1) c) w4 ∧
        w4.cell? ⟨b, 4, none⟩ = some vq ∧ w4.frozen? ⟨b, 4, none⟩ = false ∧ (w4.setCell ⟨b, 4, none⟩ (.slice A (s.q.length + 1) c)).cell? ⟨b, 5, none⟩ = some (.int .i64 s.live) ∧ (w4.setCell ⟨b, 4, none⟩ (.slice A (s.q.length + 1) c)).frozen? ⟨b, 5, none⟩ = false ∧
        StP base b wd lim ((w4.setCell ⟨b, 4, none⟩ (.slice A (s.q.length + 1) c)).setCell ⟨b, 5, none⟩ (.int .i64 (s.live - 1))) (mergeS s x y) ∧ Below base w ((w4.setCell ⟨b, 4, none⟩ (.slice A (s.q.length + 1) c)).setCell ⟨b, 5, none⟩ (.int .i64 (s.live - 1))) := by
  have hR := hC.root.merge hI hx hy hne
  rw [← hhi, ← hlo] at hR
  have hmx : hi < s.t.length := by have := hI.rlt hx; have := hI.rlt hy; omega
  obtain ⟨gp, cp, rfl, hg1, -, hcc, hfz⟩ := ownI_cell hC.par (by rw [hC.len]; omega)
  rw [hC.len] at hcc
  obtain ⟨-, Cp, hCp⟩ := owns_block hC.par gp rfl
  have hC3 := hC.setP (g := gp) rfl (by rw [hC.len]; exact hmx) (lo : Int) (s' := { mergeS s x y with q := s.q }) (t_merge s x y) rfl (hR.of_rep rfl rfl)
  have hB3 := hB.other (g := gp) ⟨Cp, hCp⟩ (by decide) hi (.int .i64 (lo : Int))
  obtain ⟨-, -, -, -, d4, -, -⟩ := hB3.cells
  obtain ⟨A, c, w4, hrun, hC4, hgr⟩ := hC3.pushQ (by rw [World.size_setCell]; exact hbw) hi hq
  rw [World.size_setCell] at hrun
  obtain ⟨-, hnq, -, -⟩ := hC3.ne_box hB3
  have hB4 := hB3.grown hgr hnq
  obtain ⟨-, -, -, -, e4, -, -⟩ := hB4.cells
  have hB5 := hB4.upd4 (.slice A (s.q.length + 1) c) rfl rfl
  obtain ⟨-, -, -, -, -, f5, -⟩ := hB5.cells
  have hml : (mergeS s x y).live = s.live - 1 := by unfold mergeS; rw [if_neg hne]
  have hB6 := hB5.upd5 (s' := mergeS s x y) (z := s.live - 1) hml (most_merge s x y)
  have hC6 := (hC4.other hB4.box (by decide) (by decide) 4 (.slice A (s.q.length + 1) c)).other hB5.box (by decide) (by decide) 5 (.int .i64 (s.live - 1))
  have hse : ({ ({ mergeS s x y with q := s.q } : St) with q := s.q ++ [hi] } : St) = mergeS s x y := by
    unfold mergeS
    rw [if_neg hne, ← hhi]
  have hpl : P.length = s.t.length := hC.len
  refine ⟨gp, cp, by rw [hpl], hcc hi hmx, hfz hi, hmx, d4, A, c, w4, hrun, e4, hB4.frozen 4, f5, hB5.frozen 5, ⟨hb, P.set hi (lo : Int), _, _, _, bl, cs, hB6, ?_⟩, ?_⟩
  · have := hC6
    simp only at this
    rw [hse] at this
    exact this
  · have h1 : Below base w (w.setCell ⟨gp, hi, none⟩ (.int .i64 (lo : Int))) := (Below.refl base w).setCell hg1 _
    have h2 := h1.grown hgr (by rw [World.size_setCell]; exact hbw) (fun r hr => (owns_block hC.que r hr).1)
    exact (h2.setCell hb _).setCell hb _
end Go.Proofs
namespace Go.Proofs
open Go.RowKit Go.Shelf Go.Proofs.Ct Go.Maps
set_option maxRecDepth 100000 in
set_option maxHeartbeats 1000000 in
theorem merge155_any (g base b wd lim x y : Nat) (w : World) (s : St) (hI : Inv g s) (hS : StP base b wd lim w s) (hbw : base ≤ w.heap.size) (hx : x < s.t.length) (hy : y < s.t.length) (hn : s.t.length ≤ 1000000) (hq : s.q.length ≤ 1000000) (hl0 : -1000000 ≤ s.live) (hl1 : s.live ≤ 1000000) :
    Calls Try.prog 155 #[.pointer (some ⟨b, 0, none⟩), .int .i64 (x : Int), .int .i64 (y : Int)] w fun e w' => e = .returned (.tuple #[]) ∧ StP base b wd lim w' (mergeS s x y) ∧ Below base w w' := by
  have HX := Lib.hid fun W (h : StP base b wd lim W s) => find156_any g base b wd lim x W s hI h hx hn
  have HY := Lib.hid fun W (h : StP base b wd lim W s) => find156_any g base b wd lim y W s hI h hy hn
  have HS := Lib.hid hS
  have HI := Lib.hid hI
  have hrx := hI.rlt hx
  have hry := hI.rlt hy
  have HBW := Lib.hid hbw
  clear hS hI hbw
  by_cases hne : s.rp x = s.rp y
  · have HM : Hid (mergeS s x y = s) := Lib.hid (by unfold mergeS; rw [if_pos hne])
    generalize mergeS s x y = s' at *
    generalize s.rp x = a at *
    generalize s.rp y = c at *
    subst hne
    go_enter Try.func155, Try.ntmps155
    go_wp2_with (first
      | (go_at_call 156; (with_reducible refine (HX.out _ HS.out).mono ?_); rintro e w1 ⟨rfl, hs1, hb1⟩
         have HS1 := Lib.hid hs1
         have HB1 := Lib.hid hb1
         clear hs1 hb1 HX)
      | (go_at_call 156; (with_reducible refine (HY.out _ HS1.out).mono ?_); rintro e w2 ⟨rfl, hs2, hb2⟩
         have HS2 := Lib.hid hs2
         have HB2 := Lib.hid hb2
         clear hs2 hb2))
    try simp only [Exit.inBlock, Exit.then]
    refine bodyPost_ret (results_none rfl _ _ _) rfl ?_
    exact ⟨rfl, by rw [HM.out]; exact HS2.out, HB1.out.trans HB2.out⟩
  · have HM : Hid (∀ W, StP base b wd lim W s → base ≤ W.heap.size → ∃ P vr vp vq bl cs, BoxP b wd lim W s vr vp vq ∧ CoreM base W s P vr vp vq bl cs) := Lib.hid fun W h _ => by
      obtain ⟨-, P, vr, vp, vq, bl, cs, h1, h2⟩ := h
      exact ⟨P, vr, vp, vq, bl, cs, h1, h2⟩
    obtain ⟨hi, hhi⟩ : ∃ hi, hi = max (s.rp x) (s.rp y) := ⟨_, rfl⟩
    obtain ⟨lo, hlo⟩ : ∃ lo, lo = min (s.rp x) (s.rp y) := ⟨_, rfl⟩
    have HG := Lib.hid fun (W : World) (P : List Int) (vr vp vq : Value) (bl cs : Nat → Nat) (hb : base ≤ b) (hbw : base ≤ W.heap.size) (hB : BoxP b wd lim W s vr vp vq) (hC : CoreM base W s P vr vp vq bl cs) =>
      merge_mem HI.out hb hbw hB hC hx hy hne hq hi lo hhi hlo
    generalize mergeS s x y = s' at *
    generalize s.rp x = u at *
    generalize s.rp y = v at *
    have hu0 : (0 : Int) ≤ (u : Int) := Int.natCast_nonneg _
    have hv0 : (0 : Int) ≤ (v : Int) := Int.natCast_nonneg _
    have hdne : ((u : Int) == (v : Int)) = false := by rw [beq_eq_false_iff_ne]; omega
    have hq0 : (s.q.length : Int) ≤ 1000000 := by omega
    rcases Nat.lt_or_gt_of_ne hne with hlt | hlt
    · obtain rfl : hi = v := by omega
      obtain rfl : lo = u := by omega
      have hl1 : (lo : Int) < (hi : Int) := by omega
      have hl2 : ¬ (hi : Int) < (lo : Int) := by omega
      clear hhi hlo hlt hne
      go_enter Try.func155, Try.ntmps155
      go_wp2_with (first
        | (go_at_call 156; (with_reducible refine (HX.out _ HS.out).mono ?_); rintro e w1 ⟨rfl, hs1, hb1⟩
           have HS1 := Lib.hid hs1
           have HB1 := Lib.hid hb1
           clear hs1 hb1 HX)
        | (go_at_call 156; (with_reducible refine (HY.out _ HS1.out).mono ?_); rintro e w2 ⟨rfl, hs2, hb2⟩
           have HS2 := Lib.hid hs2
           have HB2 := Lib.hid hb2
           obtain ⟨hb, P, vr, vp, vq, bl, cs, h1, h2⟩ := hs2
           obtain ⟨-, -, -, c3, -, -, -⟩ := h1.cells
           obtain ⟨gp, cp, rfl, c5, c6, c7, c8, A, c, w4, hrun, c9, c10, c11, c12, hst, hbe⟩ := HG.out _ _ _ _ _ _ _ hb (Nat.le_trans HBW.out (HB1.out.trans hb2).size) h1 h2
           have HAPP := Lib.hid hrun
           have HST := Lib.hid hst
           have HBE := Lib.hid hbe
           clear h1 h2 hrun hst hbe hb2 HG)
        | ((with_reducible refine wpList_sel 37 ?_); refine wpList_val rfl (r_app (.tmp 32) (.tmp 36) 24 rfl rfl rfl HAPP.out) ?_))
      go_end0
      exact ⟨rfl, HST.out, HB1.out.trans (HB2.out.trans HBE.out)⟩
    · obtain rfl : hi = u := by omega
      obtain rfl : lo = v := by omega
      have hl1 : (lo : Int) < (hi : Int) := by omega
      have hl2 : ¬ (hi : Int) < (lo : Int) := by omega
      clear hhi hlo hlt hne
      go_enter Try.func155, Try.ntmps155
      go_wp2_with (first
        | (go_at_call 156; (with_reducible refine (HX.out _ HS.out).mono ?_); rintro e w1 ⟨rfl, hs1, hb1⟩
           have HS1 := Lib.hid hs1
           have HB1 := Lib.hid hb1
           clear hs1 hb1 HX)
        | (go_at_call 156; (with_reducible refine (HY.out _ HS1.out).mono ?_); rintro e w2 ⟨rfl, hs2, hb2⟩
           have HS2 := Lib.hid hs2
           have HB2 := Lib.hid hb2
           obtain ⟨hb, P, vr, vp, vq, bl, cs, h1, h2⟩ := hs2
           obtain ⟨-, -, -, c3, -, -, -⟩ := h1.cells
           obtain ⟨gp, cp, rfl, c5, c6, c7, c8, A, c, w4, hrun, c9, c10, c11, c12, hst, hbe⟩ := HG.out _ _ _ _ _ _ _ hb (Nat.le_trans HBW.out (HB1.out.trans hb2).size) h1 h2
           have HAPP := Lib.hid hrun
           have HST := Lib.hid hst
           have HBE := Lib.hid hbe
           clear h1 h2 hrun hst hbe hb2 HG)
        | ((with_reducible refine wpList_sel 37 ?_); refine wpList_val rfl (r_app (.tmp 32) (.tmp 36) 24 rfl rfl rfl HAPP.out) ?_))
      go_end0
      exact ⟨rfl, HST.out, HB1.out.trans (HB2.out.trans HBE.out)⟩
end Go.Proofs
