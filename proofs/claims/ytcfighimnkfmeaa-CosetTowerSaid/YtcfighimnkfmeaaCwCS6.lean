/- WordsOf; power; the words of a law; Coset enumeration, plainly: states, coincidences, and what they keep. No program in sight; Coset enumeration, plainly: a coincidence keeps the edges, and empties the rows of the dead; Coset enumeration, plainly: the queue of a coincidence, and what stands behind it. -/
import Derived.Test.YtcfighimnkfmeaaCwCS5
import Derived.Test.YtcfighimnkfmeaaCwCS4
namespace Go.Proofs
open Go.RowKit Go.Shelf Go.Proofs.Ct Go.Maps
theorem under24e : Try.prog.underlying 24 = some (.slice (Try.prog.elem 24)) := by kernel_rfl
theorem r_slice_lo {o : Oper} {a : Act} {w : World} (x y : Operand) (A : Option Addr) (n c k : Nat) (ho : o.op = .slice 24 x (some y) none none) (hx : a.eval x = .slice A n c) (hy : a.eval y = .int .i64 (k : Int)) (hk : k ≤ n) : (execOp a.eval o).run Try.prog w = .ok (.value (sliced A k n c 1)) w := by
  have hu := under24e
  have hs : (sizeOf (Try.prog.elem 24)).run Try.prog w = .ok 1 w := by kernel_rfl
  unfold execOp
  simp only [ho, hx, hy, Option.map_none, Option.map_some, Sem.run_bind, run_sliceAt_slice w 24 _ _ _ _ hu, run_slice_l w 24 A n c hu .i64 (k : Int) (by omega) (by omega)]
  simp [hs]
theorem r_slice_lohi {o : Oper} {a : Act} {w : World} (x y z : Operand) (A : Option Addr) (n c k h : Nat) (ho : o.op = .slice 24 x (some y) (some z) none) (hx : a.eval x = .slice A n c) (hy : a.eval y = .int .i64 (k : Int)) (hz : a.eval z = .int .i64 (h : Int)) (hk : k ≤ h) (hc : h ≤ c) : (execOp a.eval o).run Try.prog w = .ok (.value (sliced A k h c 1)) w := by
  have hu := under24e
  have hs : (sizeOf (Try.prog.elem 24)).run Try.prog w = .ok 1 w := by kernel_rfl
  unfold execOp
  simp only [ho, hx, hy, hz, Option.map_none, Option.map_some, Sem.run_bind, run_sliceAt_slice w 24 _ _ _ _ hu, run_slice_lh w 24 A n c hu .i64 .i64 (k : Int) (h : Int) (by omega) (by omega) (by omega)]
  simp [hs]
theorem ints_sliced {w : World} {A : Option Addr} {c k h : Nat} {l : List Int} (hI : IntsAt w (.slice A l.length c) l) (hk : k ≤ h) (hh : h ≤ l.length) : ∃ A', sliced A k h c 1 = .slice A' (h - k) (c - k) ∧ IntsAt w (.slice A' (h - k) (c - k)) ((l.take h).drop k) := by
  obtain ⟨⟨A0, n, cap, e, h1, h2, h3, h4⟩, hf⟩ := hI
  obtain ⟨rfl, rfl, rfl⟩ := Value.slice.inj e
  refine ⟨_, rfl, ⟨_, _, _, rfl, by simp [ints]; omega, by omega, by omega, fun hp => ?_⟩, fun y hy => hf y (List.mem_of_mem_take (List.mem_of_mem_drop hy))⟩
  obtain ⟨b, off, rfl, hr⟩ := h4 (by omega)
  refine ⟨b, off + k, ?_, fun j v hj => ?_⟩
  · rw [if_neg (by omega), Nat.mul_one]
    exact congrArg some (Addr.add_mid b off k)
  · have hj' : (ints l)[k + j]? = some v := by
      simp only [ints, List.getElem?_map, List.getElem?_drop, List.getElem?_take] at hj ⊢
      split at hj
      · exact hj
      · simp at hj
    have := hr (k + j) v hj'
    rwa [show off + k + j = off + (k + j) by omega]
/-- the words that numbers select -/
def wordsTo (g most : Nat) : Nat → List Int → List W
  | 0, _ => []
  | _ + 1, [] => []
  | f + 1, x :: l => wordOf g (l.take (min (x % ((most + 1 : Nat) : Int)).toNat l.length)) :: wordsTo g most f (l.drop (min (x % ((most + 1 : Nat) : Int)).toNat l.length))
def wordsOf (g most : Nat) (l : List Int) : List W := wordsTo g most l.length l
theorem wordsTo_nil (g most f : Nat) : wordsTo g most f [] = [] := by cases f <;> rfl
theorem fits_wordOf {g : Nat} (hg : 1 ≤ g ∧ g ≤ 400) (l : List Int) : Fits (wordOf g l) := fun x hx => by
  obtain ⟨y, -, rfl⟩ := List.mem_map.1 hx
  have h1 := Int.emod_nonneg y (show ((2 * g : Nat) : Int) ≠ 0 by omega)
  have h2 := Int.emod_lt_of_pos y (show (0 : Int) < ((2 * g : Nat) : Int) by omega)
  have := letter_bd (c := (y % ((2 * g : Nat) : Int)).toNat) (by omega)
  omega
theorem r_min2 {o : Oper} {a : Act} {w : World} (x y : Operand) (i j z : Int) (ho : o.op = .call { callee := .builtin .min, args := #[x, y], argTypes := #[3, 3] }) (hx : a.eval x = .int .i64 i) (hy : a.eval y = .int .i64 j) (hz : z = min i j) : (execOp a.eval o).run Try.prog w = .ok (.value (.int .i64 z)) w := by
  have e : (if j < i then j else i) = z := by rw [hz]; split <;> omega
  unfold execOp
  simp only [ho, resolve, invoke, builtin, Sem.run_bind, Sem.run_pure, Result.andThen_ok, List.map_toArray, List.map_cons, List.map_nil, hx, hy, run_min_int2, e]
def WordsPost (x : List W) (w : World) (e : Ending) (w' : World) : Prop := (∃ A c, e = .returned (.slice A x.length c) ∧ TabB w.heap.size w' (.slice A x.length c) x) ∧ Below w.heap.size w w'
set_option maxRecDepth 100000 in
set_option maxHeartbeats 2000000 in
theorem wordsOf111_any (w : World) (v : Value) (l : List Int) (g most : Nat) (h : IntsAt w v l) (hg : 1 ≤ g ∧ g ≤ 400) (hm : most ≤ 1000) (hl : l.length ≤ 100000) : Calls Try.prog 111 #[v, .int .i64 (g : Int), .int .i64 (most : Int)] w (WordsPost (wordsOf g most l) w) := by
  obtain ⟨A, c, rfl, h1, h2, h3⟩ := h.open_
  have HI := Lib.hid h
  have hot := OutSt.nil 25 (Below.refl w.heap.size w)
  have HOT := Lib.hid hot
  have hg0 : (0 : Int) ≤ (g : Int) := Int.natCast_nonneg _
  have hm0 : (0 : Int) ≤ (most : Int) := Int.natCast_nonneg _
  have hm1 : (most : Int) ≤ 1000 := by omega
  have HW0 : Hid (wordsOf g most l = [] ++ wordsTo g most l.length l) := Lib.hid rfl
  unfold WordsPost
  generalize hX : wordsOf g most l = X at *
  have hln : l.length + 0 ≤ 100000 := by omega
  clear h h3 hot hX
  go_enter Try.func111, Try.ntmps111
  go_wp2_with fail
  go_loopw [0, 7] (fun sl so wr => ∃ (l2 : List Int) (f m : Nat), (∃ A c, sl = .slice A l2.length c ∧ c ≤ 9223372036854775807 ∧ Hid (IntsAt w (.slice A l2.length c) l2)) ∧ l2.length ≤ f ∧ l2.length + m ≤ 100000 ∧ ∃ F A c, so = .slice A m c ∧ ∃ rows, Hid (OutSt 25 F w wr (.slice A m c) rows) ∧ Hid (rows.length = m) ∧ Hid (X = rows ++ wordsTo g most f l2)) (fun sl _ _ => match sl with | .slice _ n _ => n | _ => 0)
  case atStart => exact ⟨l, l.length, 0, ⟨_, _, rfl, h2, HI⟩, Nat.le_refl _, hln, _, none, 0, rfl, [], HOT, Lib.hid rfl, HW0⟩
  case round =>
    clear HOT HI HW0
    obtain ⟨l2, f, m, ⟨A1, c1, rfl, hc1, HI⟩, hf, hlm, F, A2, c2, rfl, rows, HS, HRL, HX⟩ := hrel
    cases l2 with
    | nil =>
      have HE : Hid (rows = X) := Lib.hid (by have := HX.out; rw [wordsTo_nil, List.append_nil] at this; exact this.symm)
      have HT : Hid (∃ A c, Ending.returned (.slice A2 m c2) = .returned (.slice A X.length c) ∧ TabB w.heap.size wr (.slice A X.length c) X) := Lib.hid (by
        have h1 := HS.out.tabB
        rw [← HE.out, HRL.out]
        exact ⟨_, _, rfl, h1⟩)
      have HB := Lib.hid HS.out.below
      have hlen : (([] : List Int).length : Int) = 0 := rfl
      go_wp2_with fail
      go_ret
      exact ⟨HT.out, HB.out⟩
    | cons x l3 =>
      cases f with
      | zero => simp at hf
      | succ f =>
        have hTN : x % ((most + 1 : Nat) : Int) = ((x % ((most + 1 : Nat) : Int)).toNat : Int) := (Int.toNat_of_nonneg (Int.emod_nonneg x (by omega))).symm
        have hTB := Int.emod_lt_of_pos x (show (0 : Int) < ((most + 1 : Nat) : Int) by omega)
        have HTN : Hid (∀ W, Calls Try.prog 59 #[.int .i64 x, .int .i64 ((most : Int) + 1)] W fun e w' => e = .returned (.int .i64 ((x % ((most + 1 : Nat) : Int)).toNat : Int)) ∧ w' = W) := Lib.hid fun W => by
          rw [← hTN, show (most : Int) + 1 = ((most + 1 : Nat) : Int) by omega]
          exact turn59_any W x (most + 1) (by omega)
        have hstep : wordsTo g most (f + 1) (x :: l3) = wordOf g (l3.take (min (x % ((most + 1 : Nat) : Int)).toNat l3.length)) :: wordsTo g most f (l3.drop (min (x % ((most + 1 : Nat) : Int)).toNat l3.length)) := rfl
        have HX1 : Hid (X = rows ++ (wordOf g (l3.take (min (x % ((most + 1 : Nat) : Int)).toNat l3.length)) :: wordsTo g most f (l3.drop (min (x % ((most + 1 : Nat) : Int)).toNat l3.length)))) := Lib.hid (by rw [← hstep]; exact HX.out)
        generalize htz : (x % ((most + 1 : Nat) : Int)).toNat = tz at *
        have htm : tz ≤ most := by omega
        clear htz hTN hTB hstep HX
        have hll : (x :: l3).length = l3.length + 1 := rfl
        rw [hll] at HI hlm hf
        obtain ⟨n, hn⟩ : ∃ n, n = min tz l3.length := ⟨_, rfl⟩
        rw [← hn] at HX1
        have hnl : n ≤ l3.length := by omega
        have HN : Hid ((n : Int) = min (tz : Int) (l3.length : Int)) := Lib.hid (by omega)
        clear hn
        have hI : IntsAt w (.slice A1 (x :: l3).length c1) (x :: l3) := HI.out
        obtain ⟨A9, c9, e9, hq1, hq2, hq3⟩ := hI.open_
        obtain ⟨rfl, -, rfl⟩ := Value.slice.inj e9
        obtain ⟨b, o, rfl, hcc⟩ := hq3 (by simp)
        have hx0 := hcc 0 (by simp)
        have hxc := (HS.out.below.cell (p := ⟨b, o + 0, none⟩) (World.block_lt_of_cell? w _ hx0)).trans hx0
        have hxc' : wr.cell? ⟨b, o, none⟩ = some (.int .i64 x) := hxc
        obtain ⟨A3, hs1, hi1⟩ := ints_sliced (k := 1) (h := 1 + n) hI (by omega) (by simp; omega)
        obtain ⟨A4, hs2, hi2⟩ := ints_sliced (k := 1 + n) (h := l3.length + 1) hI (by omega) (by simp)
        have e1 : ((x :: l3).take (1 + n)).drop 1 = l3.take n := by rw [Nat.add_comm]; rfl
        have e2 : ((x :: l3).take (l3.length + 1)).drop (1 + n) = l3.drop n := by
          rw [show l3.length + 1 = (x :: l3).length from rfl, List.take_length, Nat.add_comm]; rfl
        have e3 : l3.length + 1 - (1 + n) = (l3.drop n).length := by rw [List.length_drop]; omega
        have e4 : 1 + n - 1 = n := by omega
        rw [e1] at hi1
        rw [e2, e3] at hi2
        rw [e4] at hi1 hs1
        rw [e3] at hs2
        have hcl : l3.length + 1 ≤ c1 := hq1
        have HI2 := Lib.hid hi2
        have HWO : Hid (Calls Try.prog 39 #[.slice A3 n (c1 - 1), .int .i64 (g : Int)] wr (WordPost (wordOf g (l3.take n)) wr)) := Lib.hid (wordOf39_any wr _ (l3.take n) g (kept_ints.below hi1 HS.out.below) (by omega) (by rw [List.length_take]; omega))
        have HFW := Lib.hid (fits_wordOf hg (l3.take n))
        have HL4 : Hid ((l3.drop n).length ≤ l3.length) := Lib.hid (by rw [List.length_drop]; omega)
        unfold WordPost at HWO
        generalize l3.take n = l5 at *
        generalize l3.drop n = l4 at *
        generalize wordOf g l5 = wd at *
        have hn0 : (0 : Int) ≤ (n : Int) := Int.natCast_nonneg _
        have hnI : (n : Int) ≤ (l3.length : Int) := by omega
        have hlI : (l3.length : Int) ≤ 100000 := by omega
        have htI : (tz : Int) ≤ 1000 := by omega
        have ht0 : (0 : Int) ≤ (tz : Int) := Int.natCast_nonneg _
        clear hcc hx0 hxc hi1 hi2 e1 e2 e4 hI e9 hq3 hll HI
        go_wp2_with (first
          | (go_at_call 59; (refine (HTN.out _).mono ?_); rintro e w1 ⟨rfl, rfl⟩)
          | ((with_reducible refine wpList_sel 21 ?_); refine wpList_val rfl (r_min2 (.tmp 17) (.tmp 20) _ _ (n : Int) rfl rfl rfl (by have := HN.out; omega)) ?_)
          | ((with_reducible refine wpList_sel 26 ?_); refine wpList_val rfl (r_slice_lohi (.tmp 23) (.const (.int .i64 1)) (.tmp 25) _ (l3.length + 1) c1 1 (1 + n) rfl rfl rfl rfl (by omega) (by omega)) ?_; rw [hs1])
          | (go_at_call 39; (refine HWO.out.mono ?_); rintro e w2 ⟨A5, c5, rfl, ho, hb⟩
             obtain ⟨A8, c8, w8, hr8, hS8⟩ := (HS.out.with_row hb ho).done (by decide) Try.underlying31 info25p HFW.out (by rw [HRL.out]; omega)
             rw [HRL.out] at hr8 hS8
             have HR8 := Lib.hid hr8
             have HS8 := Lib.hid hS8
             clear hr8 hS8 ho hb)
          | ((with_reducible refine wpList_sel 30 ?_); refine wpList_val rfl (r_app (.tmp 22) (.tmp 29) 31 rfl rfl rfl HR8.out) ?_)
          | ((with_reducible refine wpList_sel 34 ?_); refine wpList_val rfl (r_slice_lo (.tmp 31) (.tmp 33) _ (l3.length + 1) c1 (1 + n) rfl rfl rfl (by omega)) ?_; rw [show sliced (some ⟨b, o, none⟩) (1 + n) (l3.length + 1) c1 1 = _ from hs2]))
        go_roundw
        case rel => exact ⟨l4, f, m + 1, ⟨_, _, rfl, by omega, HI2⟩, by have := HL4.out; omega, by have := HL4.out; omega, _, _, _, rfl, rows ++ [wd], HS8, Lib.hid (by rw [List.length_append, HRL.out]; rfl), Lib.hid (by rw [HX1.out, List.append_assoc]; rfl)⟩
        case measure => have := HL4.out; simp; omega
end Go.Proofs
namespace Go.Proofs
open Go.RowKit Go.Shelf Go.Proofs.Ct Go.Maps
theorem tab_sliced {w : World} {A : Option Addr} {c h : Nat} {l : List W} (hT : Tab w (.slice A l.length c) l) (hh : h ≤ l.length) : ∃ A', sliced A 0 h c 1 = .slice A' h c ∧ Tab w (.slice A' h c) (l.take h) := by
  obtain ⟨vs, ⟨A0, n, cap, e, h1, h2, h3, h4⟩, hl, hr⟩ := hT
  obtain ⟨rfl, rfl, rfl⟩ := Value.slice.inj e
  refine ⟨_, rfl, vs.take h, ⟨_, h, c, rfl, by rw [List.length_take]; omega, by omega, h3, fun hp => ?_⟩, by rw [List.length_take, List.length_take]; omega, fun i hi => ?_⟩
  · obtain ⟨b, off, rfl, hr'⟩ := h4 (by omega)
    refine ⟨b, off, ?_, fun j v hj => hr' j v ?_⟩
    · rw [if_neg (by omega)]
      exact congrArg some (Addr.add_mid b off 0)
    · rw [List.getElem?_take] at hj
      split at hj
      · exact hj
      · cases hj
  · rw [List.length_take] at hi
    obtain ⟨u, hu, hx⟩ := hr i (by omega)
    refine ⟨u, by rw [List.getElem?_take, if_pos (by omega)]; exact hu, ?_⟩
    have : (l.take h).getD i [] = l.getD i [] := by
      rw [List.getD_eq_getElem?_getD, List.getElem?_take, if_pos (by omega), List.getD_eq_getElem?_getD]
    rw [this]
    exact hx
theorem tabB_sliced {base : Nat} {w : World} {A : Option Addr} {c h : Nat} {l : List W} (hT : TabB base w (.slice A l.length c) l) (hh : h ≤ l.length) : ∃ A', sliced A 0 h c 1 = .slice A' h c ∧ TabB base w (.slice A' h c) (l.take h) :=
  ⟨_, rfl, fun w' hw => by
    obtain ⟨A', e, ht⟩ := tab_sliced (hT w' hw) hh
    show Tab w' (sliced A 0 h c 1) _
    rw [e]
    exact ht⟩
/-- a word, so many times -/
def powW (x : List Int) : Nat → List Int
  | 0 => []
  | n + 1 => powW x n ++ x
theorem length_powW (x : List Int) : ∀ n, (powW x n).length = n * x.length
  | 0 => by simp [powW]
  | n + 1 => by rw [powW, List.length_append, length_powW x n, Nat.succ_mul]
set_option maxRecDepth 100000 in
set_option maxHeartbeats 1000000 in
theorem power112_any (w : World) (v : Value) (x : List Int) (n : Nat) (h : IntsAt w v x) (hn : n ≤ 1000) (hx : x.length ≤ 100) : Calls Try.prog 112 #[v, .int .i64 (n : Int)] w (WordPost (powW x n) w) := by
  obtain ⟨A, c, rfl, h1, h2, -⟩ := h.open_
  have HI := Lib.hid h
  have h0 : OwnI w.heap.size w (.slice none 0 0) [] := World.ownsRow_nil _ _ _ _
  have H0 : Hid (OwnI w.heap.size w (.slice none (powW x 0).length 0) (powW x 0)) := Lib.hid h0
  have hn0 : (0 : Int) ≤ (n : Int) := Int.natCast_nonneg _
  have hn1 : (n : Int) ≤ 1000 := by omega
  have HLN : Hid (∀ k, k ≤ n → (powW x k).length ≤ 100000) := Lib.hid fun k hk => by
    rw [length_powW]
    exact Nat.le_trans (Nat.mul_le_mul (Nat.le_trans hk hn) hx) (by omega)
  have HXL := Lib.hid hx
  clear h h0 hx
  unfold WordPost
  go_enter Try.func112, Try.ntmps112
  go_wp2_with fail
  go_loopw [5, 6] (fun so i wr => ∃ k : Nat, i = .int .i64 k ∧ k ≤ n ∧ ∃ m A c, so = .slice A m c ∧ Hid (m = (powW x k).length) ∧ Hid (OwnI w.heap.size wr (.slice A m c) (powW x k)) ∧ Hid (Below w.heap.size w wr)) (fun _ i _ => n - (intOf i).toNat)
  case atStart => exact ⟨0, rfl, by omega, 0, none, 0, rfl, Lib.hid rfl, H0, Lib.hid (Below.refl _ _)⟩
  case round =>
    clear H0
    obtain ⟨k, rfl, hk, m, A2, c2, rfl, HM, HO, HB⟩ := hrel
    have hk0 : (0 : Int) ≤ (k : Int) := Int.natCast_nonneg _
    by_cases hlt : k < n
    · have hlt' : (k : Int) < (n : Int) := by omega
      obtain ⟨A', c', w', hr, ho, hg, -⟩ := run_append_ints 25 25 Try.underlying25 wr w.heap.size _ _ (powW x k) x HO.out (kept_ints.below HI.out HB.out) (by have := HLN.out k hk; omega) (by have := HXL.out; omega) HB.out.size
      have HR := Lib.hid hr
      have HO' : Hid (OwnI w.heap.size w' (.slice A' (powW x k ++ x).length c') (powW x (k + 1))) := Lib.hid ho
      have HB' : Hid (Below w.heap.size w w') := Lib.hid (HB.out.grown hg HB.out.size fun r hr => (owns_block HO.out r hr).1)
      have HM' : Hid ((powW x k ++ x).length = (powW x (k + 1)).length) := Lib.hid rfl
      clear hr ho hg
      generalize (powW x k ++ x).length = m' at *
      go_wp2_with ((with_reducible refine wpList_sel 14 ?_); refine wpList_val rfl (r_app (.tmp 12) (.tmp 13) 25 rfl rfl rfl HR.out) ?_)
      go_roundw
      case rel => exact ⟨k + 1, by go_num, by omega, _, _, _, rfl, HM', HO', HB'⟩
      case measure => simp [intOf]; omega
    · obtain rfl : k = n := by omega
      have HE : Hid (∃ A c, Ending.returned (.slice A2 m c2) = .returned (.slice A (powW x k).length c) ∧ OwnI w.heap.size wr (.slice A (powW x k).length c) (powW x k) ∧ Below w.heap.size w wr) := Lib.hid ⟨A2, c2, by rw [← HM.out], by rw [← HM.out]; exact HO.out, HB.out⟩
      go_wp2_with fail
      go_ret
      exact HE.out
theorem r_slice_hi31 {o : Oper} {a : Act} {w : World} (x y : Operand) (A : Option Addr) (n c h : Nat) (ho : o.op = .slice 31 x none (some y) none) (hx : a.eval x = .slice A n c) (hy : a.eval y = .int .i64 (h : Int)) (hc : h ≤ c) : (execOp a.eval o).run Try.prog w = .ok (.value (sliced A 0 h c 1)) w := by
  have hu : Try.prog.underlying 31 = some (.slice (Try.prog.elem 31)) := by kernel_rfl
  have hs : (sizeOf (Try.prog.elem 31)).run Try.prog w = .ok 1 w := by kernel_rfl
  unfold execOp
  simp only [ho, hx, hy, Option.map_none, Option.map_some, Sem.run_bind, run_sliceAt_slice w 31 _ _ _ _ hu, run_slice_h w 31 A n c hu .i64 (h : Int) (by omega) (by omega)]
  simp [hs]
/-- the words of a law: the first m of those that numbers select -/
def lawWords (g m : Nat) (l : List Int) : List W := (wordsOf g 12 l).take m
def LawWordsPost (x : List W) (w : World) (e : Ending) (w' : World) : Prop := (∃ A c, e = .returned (.slice A x.length c) ∧ TabB w.heap.size w' (.slice A x.length c) x) ∧ Below w.heap.size w w'
theorem wordsTo_length (g most : Nat) : ∀ (f : Nat) (l : List Int), (wordsTo g most f l).length ≤ f
  | 0, _ => Nat.le_refl _
  | _ + 1, [] => Nat.zero_le _
  | f + 1, x :: l => by
    rw [wordsTo, List.length_cons]
    have := wordsTo_length g most f (l.drop (min (x % ((most + 1 : Nat) : Int)).toNat l.length))
    omega
set_option maxRecDepth 100000 in
set_option maxHeartbeats 1000000 in
theorem words58_any (w : World) (v : Value) (l : List Int) (g : Nat) (h : IntsAt w v l) (hg : 1 ≤ g ∧ g ≤ 400) (hl : l.length ≤ 100000) : Calls Try.prog 58 #[v, .int .i64 (g : Int)] w (LawWordsPost (lawWords g 6 l) w) := by
  have HC : Hid (Calls Try.prog 111 #[v, .int .i64 (g : Int), .int .i64 12] w (WordsPost (wordsOf g 12 l) w)) := Lib.hid (wordsOf111_any w v l g 12 h hg (by omega) hl)
  have hwl := wordsTo_length g 12 l.length l
  have hwl2 : (wordsOf g 12 l).length ≤ 100000 := Nat.le_trans hwl hl
  obtain ⟨A, c, rfl, h1, h2, -⟩ := h.open_
  clear h hwl
  unfold LawWordsPost lawWords
  unfold WordsPost at HC
  generalize wordsOf g 12 l = X at *
  have hxl : (X.length : Int) ≤ 100000 := by omega
  have hx0 : (0 : Int) ≤ (X.length : Int) := Int.natCast_nonneg _
  obtain ⟨n, hn⟩ : ∃ n, n = min X.length 6 := ⟨_, rfl⟩
  have hnx : n ≤ X.length := by omega
  have HN : Hid ((n : Int) = min (X.length : Int) 6) := Lib.hid (by omega)
  have HT : Hid ((X.take 6) = X.take n ∧ (X.take n).length = n) := Lib.hid (by
    rw [List.length_take]
    refine ⟨?_, by omega⟩
    rcases Nat.lt_or_ge X.length 6 with h | h
    · rw [List.take_of_length_le (by omega), List.take_of_length_le (by omega)]
    · rw [show n = 6 by omega])
  rw [HT.out.1]
  clear hn
  go_enter Try.func58, Try.ntmps58
  go_wp2_with (first
    | (go_at_call 111; (refine HC.out.mono ?_); rintro e w2 ⟨⟨A5, c5, rfl, ht⟩, hb⟩
       obtain ⟨A6, hs6, ht6⟩ := tabB_sliced ht hnx
       obtain ⟨A7, c7, e7, hc7, -, -⟩ := LAt.open_ ht.at_
       obtain ⟨rfl, -, rfl⟩ := Value.slice.inj e7
       have HE : Hid ((∃ A c, Ending.returned (.slice A6 n c5) = .returned (.slice A (X.take n).length c) ∧ TabB w.heap.size w2 (.slice A (X.take n).length c) (X.take n)) ∧ Below w.heap.size w w2) := Lib.hid ⟨⟨A6, c5, by rw [HT.out.2], by rw [HT.out.2]; exact ht6⟩, hb⟩
       clear ht hb ht6 e7)
    | ((with_reducible refine wpList_sel 12 ?_); refine wpList_val rfl (r_min2 (.tmp 11) (.const (.int .i64 6)) _ _ (n : Int) rfl rfl rfl (by have := HN.out; omega)) ?_)
    | ((with_reducible refine wpList_sel 13 ?_); refine wpList_val rfl (r_slice_hi31 (.tmp 9) (.tmp 12) _ X.length c5 n rfl rfl rfl (by omega)) ?_; rw [hs6]))
  go_ret
  exact HE.out
end Go.Proofs
namespace Go.Proofs.Ct
/-- the element (r, c) set -/
def set2 (t : Tb) (r c : Nat) (v : Int) : Tb := t.set r ((t.row r).set c v)
theorem length_set2 (t : Tb) (r c : Nat) (v : Int) : (set2 t r c v).length = t.length := by simp [set2]
theorem row_set2 (t : Tb) (r c : Nat) (v : Int) (k : Nat) : (set2 t r c v).row k = if r = k ∧ r < t.length then (t.row r).set c v else t.row k := by
  unfold set2 Tb.row
  rw [List.getD_eq_getElem?_getD, List.getElem?_set]
  by_cases h : r = k
  · subst h
    by_cases h2 : r < t.length
    · simp [h2]
    · simp [h2, List.getD_eq_getElem?_getD]
  · simp [h, List.getD_eq_getElem?_getD]
theorem rowlen_set2 (t : Tb) (r c : Nat) (v : Int) (k : Nat) : ((set2 t r c v).row k).length = (t.row k).length := by
  rw [row_set2]
  split
  · rename_i h; rw [← h.1]; simp
  · rfl
theorem at_set2 (t : Tb) (r c : Nat) (v : Int) (k j : Nat) : (set2 t r c v).at k j = if r = k ∧ c = j ∧ r < t.length ∧ c < (t.row r).length then v else t.at k j := by
  unfold Tb.at
  rw [row_set2]
  by_cases h : r = k ∧ r < t.length
  · rw [if_pos h]
    obtain ⟨rfl, hr⟩ := h
    rw [List.getD_eq_getElem?_getD, List.getElem?_set]
    by_cases hc : c = j
    · subst hc
      by_cases hl : c < (t.row r).length
      · simp [hl, hr]
      · simp [hl, List.getD_eq_getElem?_getD]
    · simp [hc, List.getD_eq_getElem?_getD]
  · rw [if_neg h, if_neg (fun h' => h ⟨h'.1, h'.2.2.1⟩)]
theorem flp_flp (c : Nat) : flp (flp c) = c := by unfold flp; split <;> split <;> omega
theorem flp_ne (c : Nat) : flp c ≠ c := by unfold flp; split <;> omega
theorem flp_lt2 {c g : Nat} (h : c < 2 * g) : flp c < 2 * g := by unfold flp; split <;> omega
/-- the state of an enumeration: the rows, the representatives, the queue, how many live, how many at most -/
structure St where
  t : Tb
  rep : List Nat
  q : List Nat
  live : Int
  most : Int
def St.rp (s : St) (x : Nat) : Nat := s.rep.getD x 0
def mergeS (s : St) (a b : Nat) : St :=
  if s.rp a = s.rp b then s else { s with rep := s.rep.map fun x => if x = max (s.rp a) (s.rp b) then min (s.rp a) (s.rp b) else x, q := s.q ++ [max (s.rp a) (s.rp b)], live := s.live - 1 }
def joinT (t : Tb) (r c d : Nat) : Tb := set2 (set2 t r c (d : Int)) d (flp c) (r : Int)
def cutT (t : Tb) (e c : Nat) : Tb := set2 (set2 t e c (-1)) (t.at e c).toNat (flp c) (-1)
def stepS (e c : Nat) (s : St) : St :=
  if s.t.at e c < 0 then s else
  if 0 ≤ (cutT s.t e c).at (s.rp e) c then mergeS { s with t := cutT s.t e c } ((cutT s.t e c).at (s.rp e) c).toNat (s.rp (s.t.at e c).toNat) else
  if 0 ≤ (cutT s.t e c).at (s.rp (s.t.at e c).toNat) (flp c) then mergeS { s with t := cutT s.t e c } ((cutT s.t e c).at (s.rp (s.t.at e c).toNat) (flp c)).toNat (s.rp e) else
  { s with t := joinT (cutT s.t e c) (s.rp e) c (s.rp (s.t.at e c).toNat) }
def procTo (e : Nat) (c : Nat) (s : St) : St := foldTo (stepS e) c s
def coinTo (m k : Nat) (s : St) : St := foldTo (fun k s => if k < s.q.length then procTo (s.q.getD k 0) m s else s) k s
def coinS (m : Nat) (s : St) (a b : Nat) : St := coinTo m s.t.length (mergeS { s with q := [] } a b)
/-- what always holds of a state with 2 * g columns -/
structure Inv (g : Nat) (s : St) : Prop where
  len : ∀ r, r < s.t.length → (s.t.row r).length = 2 * g
  bd : ∀ r, r < s.t.length → ∀ c, c < 2 * g → -1 ≤ s.t.at r c ∧ s.t.at r c < s.t.length
  rl : s.rep.length = s.t.length
  rle : ∀ x, x < s.t.length → s.rp x ≤ x
  rid : ∀ x, x < s.t.length → s.rp (s.rp x) = s.rp x
  back : ∀ r, r < s.t.length → ∀ c, c < 2 * g → 0 ≤ s.t.at r c → s.t.at (s.t.at r c).toNat (flp c) = r
theorem Inv.rlt {g : Nat} {s : St} (h : Inv g s) {x : Nat} (hx : x < s.t.length) : s.rp x < s.t.length := Nat.lt_of_le_of_lt (h.rle x hx) hx
/-- an edge -/
def Edge (t : Tb) (x c y : Nat) : Prop := t.at x c = (y : Int)
/-- s goes on from s0: classes grow, edges stay, seen from the classes -/
structure Cov (g : Nat) (s0 s : St) : Prop where
  n : s.t.length = s0.t.length
  coarse : ∀ x, x < s0.t.length → s.rp (s0.rp x) = s.rp x
  edge : ∀ x c y, x < s0.t.length → c < 2 * g → Edge s0.t x c y → ∃ u v, u < s0.t.length ∧ v < s0.t.length ∧ Edge s.t u c v ∧ s.rp u = s.rp x ∧ s.rp v = s.rp y
theorem Edge.lt {g : Nat} {s : St} (h : Inv g s) {x c y : Nat} (hx : x < s.t.length) (hc : c < 2 * g) (he : Edge s.t x c y) : y < s.t.length := by
  have := (h.bd x hx c hc).2
  rw [he] at this
  omega
theorem Edge.back {g : Nat} {s : St} (h : Inv g s) {x c y : Nat} (hx : x < s.t.length) (hc : c < 2 * g) (he : Edge s.t x c y) : Edge s.t y (flp c) x := by
  have := h.back x hx c hc (by rw [he]; omega)
  rw [he] at this
  unfold Edge
  simpa using this
theorem Cov.refl {g : Nat} {s : St} (h : Inv g s) : Cov g s s := ⟨rfl, fun x hx => h.rid x hx, fun x _c y hx hc he => ⟨x, y, hx, he.lt h hx hc, he, rfl, rfl⟩⟩
theorem Cov.trans {g : Nat} {a b c : St} (ha : Inv g a) (h1 : Cov g a b) (h2 : Cov g b c) : Cov g a c := by
  have hsame : ∀ x y, x < a.t.length → y < a.t.length → b.rp x = b.rp y → c.rp x = c.rp y := fun x y hx hy e => by
    rw [← h2.coarse x (by rw [h1.n]; exact hx), ← h2.coarse y (by rw [h1.n]; exact hy), e]
  refine ⟨h2.n.trans h1.n, fun x hx => ?_, fun x k y hx hk he => ?_⟩
  · have hr := ha.rlt hx
    exact hsame _ _ hr hx (h1.coarse x hx)
  · have hy := he.lt ha hx hk
    obtain ⟨u, v, hu, hv, e1, e2, e3⟩ := h1.edge x k y hx hk he
    obtain ⟨u', v', hu', hv', f1, f2, f3⟩ := h2.edge u k v (by rw [h1.n]; exact hu) hk e1
    rw [h1.n] at hu' hv'
    exact ⟨u', v', hu', hv', f1, f2.trans (hsame _ _ hu hx e2), f3.trans (hsame _ _ hv hy e3)⟩
/-- merging -/
theorem rp_merge {g : Nat} {s : St} (h : Inv g s) {a b x : Nat} (_ha : a < s.t.length) (_hb : b < s.t.length) (hx : x < s.t.length) : (mergeS s a b).rp x = if s.rp x = max (s.rp a) (s.rp b) then min (s.rp a) (s.rp b) else s.rp x := by
  unfold mergeS
  split
  · rename_i e
    rw [e, Nat.max_self, Nat.min_self]
    split
    · rename_i e2; exact e2
    · rfl
  · unfold St.rp
    simp only
    have hl : x < s.rep.length := by rw [h.rl]; exact hx
    simp [List.getD_eq_getElem?_getD, hl]
theorem t_merge (s : St) (a b : Nat) : (mergeS s a b).t = s.t := by unfold mergeS; split <;> rfl
theorem Inv.merge {g : Nat} {s : St} (h : Inv g s) {a b : Nat} (ha : a < s.t.length) (hb : b < s.t.length) : Inv g (mergeS s a b) := by
  have ht := t_merge s a b
  have hra := h.rid a ha
  have hrb := h.rid b hb
  have hla := h.rle a ha
  have hlb := h.rle b hb
  refine ⟨by rw [ht]; exact h.len, by rw [ht]; exact h.bd, ?_, fun x hx => ?_, fun x hx => ?_, by rw [ht]; exact h.back⟩
  · rw [ht]
    unfold mergeS
    split
    · exact h.rl
    · simpa using h.rl
  · rw [ht] at hx
    rw [rp_merge h ha hb hx]
    have := h.rle x hx
    split <;> omega
  · rw [ht] at hx
    have hx1 := h.rlt hx
    have hr := h.rid x hx
    rw [rp_merge h ha hb hx]
    by_cases e : s.rp x = max (s.rp a) (s.rp b)
    · rw [if_pos e]
      have hmin : min (s.rp a) (s.rp b) < s.t.length := by omega
      have hmr : s.rp (min (s.rp a) (s.rp b)) = min (s.rp a) (s.rp b) := by
        rcases Nat.le_total (s.rp a) (s.rp b) with h' | h'
        · rw [Nat.min_eq_left h']; exact hra
        · rw [Nat.min_eq_right h']; exact hrb
      rw [rp_merge h ha hb hmin, hmr]
      split
      · rfl
      · rfl
    · rw [if_neg e, rp_merge h ha hb hx1, hr, if_neg e]
theorem Cov.merge {g : Nat} {s : St} (h : Inv g s) {a b : Nat} (ha : a < s.t.length) (hb : b < s.t.length) : Cov g s (mergeS s a b) ∧ (mergeS s a b).rp a = (mergeS s a b).rp b := by
  refine ⟨⟨by rw [t_merge], fun x hx => ?_, fun x c y hx hc he => ⟨x, y, hx, he.lt h hx hc, by rw [t_merge]; exact he, rfl, rfl⟩⟩, ?_⟩
  · rw [rp_merge h ha hb hx, rp_merge h ha hb (h.rlt hx), h.rid x hx]
  · rw [rp_merge h ha hb ha, rp_merge h ha hb hb]
    split <;> split <;> omega
end Go.Proofs.Ct
namespace Go.Proofs.Ct
section
variable {g : Nat} {s : St}
theorem at_cut (h : Inv g s) {e c : Nat} (he : e < s.t.length) (hc : c < 2 * g) (_hd : 0 ≤ s.t.at e c) (k j : Nat) :
    (cutT s.t e c).at k j = if (k = e ∧ j = c) ∨ (k = (s.t.at e c).toNat ∧ j = flp c) then -1 else s.t.at k j := by
  have hb := h.bd e he c hc
  have hdn : (s.t.at e c).toNat < s.t.length := by omega
  unfold cutT
  rw [at_set2, at_set2, length_set2, rowlen_set2, h.len _ he, h.len _ hdn]
  have hf := flp_lt2 hc
  by_cases h1 : (s.t.at e c).toNat = k ∧ flp c = j
  · rw [if_pos ⟨h1.1, h1.2, hdn, hf⟩, if_pos (.inr ⟨h1.1.symm, h1.2.symm⟩)]
  · rw [if_neg (fun h' => h1 ⟨h'.1, h'.2.1⟩)]
    by_cases h2 : e = k ∧ c = j
    · rw [if_pos ⟨h2.1, h2.2, he, hc⟩, if_pos (.inl ⟨h2.1.symm, h2.2.symm⟩)]
    · rw [if_neg (fun h' => h2 ⟨h'.1, h'.2.1⟩), if_neg]
      rintro (h' | h')
      · exact h2 ⟨h'.1.symm, h'.2.symm⟩
      · exact h1 ⟨h'.1.symm, h'.2.symm⟩
theorem length_cut (t : Tb) (e c : Nat) : (cutT t e c).length = t.length := by simp [cutT, length_set2]
theorem rowlen_cut (t : Tb) (e c k : Nat) : ((cutT t e c).row k).length = (t.row k).length := by simp [cutT, rowlen_set2]
theorem Inv.cut (h : Inv g s) {e c : Nat} (he : e < s.t.length) (hc : c < 2 * g) (hd : 0 ≤ s.t.at e c) : Inv g { s with t := cutT s.t e c } := by
  have hdn : (s.t.at e c).toNat < s.t.length := by have := h.bd e he c hc; omega
  have hbk := h.back e he c hc hd
  refine ⟨fun r hr => ?_, fun r hr k hk => ?_, ?_, fun x hx => h.rle x (by simpa [length_cut] using hx), fun x hx => h.rid x (by simpa [length_cut] using hx), fun r hr k hk h0 => ?_⟩
  · rw [rowlen_cut]; exact h.len r (by simpa [length_cut] using hr)
  · simp only [length_cut] at hr ⊢
    rw [at_cut h he hc hd]
    have := h.bd r hr k hk
    split
    · omega
    · exact this
  · simp only [length_cut]; exact h.rl
  · simp only [length_cut] at hr
    simp only at h0 ⊢
    rw [at_cut h he hc hd r k] at h0 ⊢
    by_cases hx : (r = e ∧ k = c) ∨ (r = (s.t.at e c).toNat ∧ k = flp c)
    · rw [if_pos hx] at h0; omega
    · rw [if_neg hx] at h0 ⊢
      rw [at_cut h he hc hd, if_neg]
      · exact h.back r hr k hk h0
      · have hb := h.back r hr k hk h0
        rintro (⟨h1, h2⟩ | ⟨h1, h2⟩)
        · rw [h1, h2] at hb
          exact hx (.inr ⟨by omega, by rw [← h2, flp_flp]⟩)
        · have hkc : k = c := by rw [← flp_flp k, h2, flp_flp]
          rw [h1, h2, hbk] at hb
          exact hx (.inl ⟨by omega, hkc⟩)
theorem at_join (h : Inv g s) {u v c : Nat} (hu : u < s.t.length) (hv : v < s.t.length) (hc : c < 2 * g) (k j : Nat) :
    (joinT s.t u c v).at k j = if k = v ∧ j = flp c then (u : Int) else if k = u ∧ j = c then (v : Int) else s.t.at k j := by
  have hf := flp_lt2 hc
  unfold joinT
  rw [at_set2, at_set2, length_set2, rowlen_set2, h.len _ hu, h.len _ hv]
  by_cases h1 : k = v ∧ j = flp c
  · rw [if_pos ⟨h1.1.symm, h1.2.symm, hv, hf⟩, if_pos h1]
  · rw [if_neg (fun h' => h1 ⟨h'.1.symm, h'.2.1.symm⟩), if_neg h1]
    by_cases h2 : k = u ∧ j = c
    · rw [if_pos ⟨h2.1.symm, h2.2.symm, hu, hc⟩, if_pos h2]
    · rw [if_neg (fun h' => h2 ⟨h'.1.symm, h'.2.1.symm⟩), if_neg h2]
theorem length_join (t : Tb) (u c v : Nat) : (joinT t u c v).length = t.length := by simp [joinT, length_set2]
theorem rowlen_join (t : Tb) (u c v k : Nat) : ((joinT t u c v).row k).length = (t.row k).length := by simp [joinT, rowlen_set2]
theorem Inv.join (h : Inv g s) {u v c : Nat} (hu : u < s.t.length) (hv : v < s.t.length) (hc : c < 2 * g) (h1 : s.t.at u c < 0) (h2 : s.t.at v (flp c) < 0) : Inv g { s with t := joinT s.t u c v } := by
  refine ⟨fun r hr => ?_, fun r hr k hk => ?_, ?_, fun x hx => h.rle x (by simpa [length_join] using hx), fun x hx => h.rid x (by simpa [length_join] using hx), fun r hr k hk h0 => ?_⟩
  · rw [rowlen_join]; exact h.len r (by simpa [length_join] using hr)
  · simp only [length_join] at hr ⊢
    rw [at_join h hu hv hc]
    have := h.bd r hr k hk
    split
    · omega
    · split
      · omega
      · exact this
  · simp only [length_join]; exact h.rl
  · simp only [length_join] at hr
    simp only at h0 ⊢
    have hne := flp_ne c
    rw [at_join h hu hv hc r k] at h0 ⊢
    by_cases e1 : r = v ∧ k = flp c
    · rw [if_pos e1, Int.toNat_natCast, at_join h hu hv hc, e1.2, flp_flp, if_neg (fun h' => hne h'.2.symm), if_pos ⟨rfl, rfl⟩, e1.1]
    · rw [if_neg e1] at h0 ⊢
      by_cases e2 : r = u ∧ k = c
      · rw [if_pos e2, Int.toNat_natCast, at_join h hu hv hc, if_pos ⟨rfl, by rw [e2.2]⟩, e2.1]
      · rw [if_neg e2] at h0 ⊢
        have hb := h.back r hr k hk h0
        rw [at_join h hu hv hc, if_neg, if_neg]
        · exact hb
        · rintro ⟨h', h''⟩
          rw [h', h''] at hb
          omega
        · rintro ⟨h', h''⟩
          rw [h', h''] at hb
          omega
/-- one column of one row: it keeps what always holds, and goes on from where it was -/
theorem step_cov (h : Inv g s) {e c : Nat} (he : e < s.t.length) (hc : c < 2 * g) : Inv g (stepS e c s) ∧ Cov g s (stepS e c s) := by
  unfold stepS
  by_cases hd : s.t.at e c < 0
  · rw [if_pos hd]
    exact ⟨h, Cov.refl h⟩
  · rw [if_neg hd]
    have hd' : 0 ≤ s.t.at e c := by omega
    obtain ⟨d, hdd⟩ := Int.eq_ofNat_of_zero_le hd'
    have hdn : d < s.t.length := by have := h.bd e he c hc; omega
    have hcut := h.cut he hc hd'
    have hat := at_cut h he hc hd'
    have hbk : s.t.at d (flp c) = (e : Int) := by have := h.back e he c hc hd'; rw [hdd] at this; simpa using this
    rw [hdd, Int.toNat_natCast] at hat ⊢
    have hun := h.rlt he
    have hvn := h.rlt hdn
    have hlen := length_cut s.t e c
    have hf := flp_lt2 hc
    generalize hs1 : ({ s with t := cutT s.t e c } : St) = s1 at *
    have ht1 : s1.t = cutT s.t e c := by rw [← hs1]
    have hrp1 : ∀ x, s1.rp x = s.rp x := fun x => by rw [← hs1]; rfl
    have hn1 : s1.t.length = s.t.length := by rw [ht1, hlen]
    rw [← ht1] at hat ⊢
    -- edges that are not cut
    have hkeep : ∀ x k y, x < s.t.length → k < 2 * g → Edge s.t x k y → ¬ ((x = e ∧ k = c) ∨ (x = d ∧ k = flp c)) → Edge s1.t x k y := fun x k y hx hk hE hn => by
      unfold Edge
      rw [hat, if_neg hn]
      exact hE
    have hcov0 : ∀ s2 : St, Cov g s1 s2 → (∀ u v : Nat, u < s.t.length → v < s.t.length → True) →
        (∃ u v, u < s.t.length ∧ v < s.t.length ∧ Edge s2.t u c v ∧ s2.rp u = s2.rp e ∧ s2.rp v = s2.rp d) → (∃ u v, u < s.t.length ∧ v < s.t.length ∧ Edge s2.t u (flp c) v ∧ s2.rp u = s2.rp d ∧ s2.rp v = s2.rp e) → Cov g s s2 := fun s2 h2 _ ha hb => by
      refine ⟨h2.n.trans hn1, fun x hx => ?_, fun x k y hx hk hE => ?_⟩
      · rw [← hrp1 x]; exact h2.coarse x (by rw [hn1]; exact hx)
      · by_cases h3 : (x = e ∧ k = c) ∨ (x = d ∧ k = flp c)
        · rcases h3 with ⟨rfl, rfl⟩ | ⟨rfl, rfl⟩
          · obtain rfl : y = d := by unfold Edge at hE; omega
            exact ha
          · obtain rfl : y = e := by unfold Edge at hE; omega
            exact hb
        · obtain ⟨u, v, h4, h5, h6⟩ := h2.edge x k y (by rw [hn1]; exact hx) hk (hkeep x k y hx hk hE h3)
          rw [hn1] at h4 h5
          exact ⟨u, v, h4, h5, h6⟩
    have hce : ∀ (s2 : St), Cov g s1 s2 → ∀ x, x < s.t.length → s2.rp (s.rp x) = s2.rp x := fun s2 h2 x hx => by
      have := h2.coarse x (by omega)
      rwa [hrp1] at this
    by_cases h1 : 0 ≤ s1.t.at (s.rp e) c
    · rw [if_pos h1]
      obtain ⟨w, hw⟩ := Int.eq_ofNat_of_zero_le h1
      have hE1 : Edge s1.t (s.rp e) c w := hw
      have hwn : w < s.t.length := by have := hE1.lt hcut (by rw [hn1]; exact hun) hc; omega
      have hE2 := hE1.back hcut (by rw [hn1]; exact hun) hc
      rw [hw, Int.toNat_natCast]
      have hI := hcut.merge (a := w) (b := s.rp d) (by omega) (by omega)
      obtain ⟨hC, hm⟩ := Cov.merge hcut (a := w) (b := s.rp d) (by omega) (by omega)
      refine ⟨hI, hcov0 _ hC (fun _ _ _ _ => trivial) ⟨s.rp e, w, hun, hwn, by rw [t_merge]; exact hE1, ?_, ?_⟩ ⟨w, s.rp e, hwn, hun, by rw [t_merge]; exact hE2, ?_, ?_⟩⟩
      · exact hce _ hC e he
      · rw [hm]; exact hce _ hC d hdn
      · rw [hm]; exact hce _ hC d hdn
      · exact hce _ hC e he
    · rw [if_neg h1]
      by_cases h2 : 0 ≤ s1.t.at (s.rp d) (flp c)
      · rw [if_pos h2]
        obtain ⟨w, hw⟩ := Int.eq_ofNat_of_zero_le h2
        have hE1 : Edge s1.t (s.rp d) (flp c) w := hw
        have hwn : w < s.t.length := by have := hE1.lt hcut (by rw [hn1]; exact hvn) hf; omega
        have hE2 := hE1.back hcut (by rw [hn1]; exact hvn) hf
        rw [flp_flp] at hE2
        rw [hw, Int.toNat_natCast]
        have hI := hcut.merge (a := w) (b := s.rp e) (by omega) (by omega)
        obtain ⟨hC, hm⟩ := Cov.merge hcut (a := w) (b := s.rp e) (by omega) (by omega)
        refine ⟨hI, hcov0 _ hC (fun _ _ _ _ => trivial) ⟨w, s.rp d, hwn, hvn, by rw [t_merge]; exact hE2, ?_, ?_⟩ ⟨s.rp d, w, hvn, hwn, by rw [t_merge]; exact hE1, ?_, ?_⟩⟩
        · rw [hm]; exact hce _ hC e he
        · exact hce _ hC d hdn
        · exact hce _ hC d hdn
        · rw [hm]; exact hce _ hC e he
      · rw [if_neg h2]
        have hI := hcut.join (u := s.rp e) (v := s.rp d) (c := c) (by omega) (by omega) hc (by omega) (by omega)
        have haj := at_join hcut (u := s.rp e) (v := s.rp d) (c := c) (by omega) (by omega) hc
        have hs2 : ({ s with t := joinT s1.t (s.rp e) c (s.rp d) } : St) = { s1 with t := joinT s1.t (s.rp e) c (s.rp d) } := by rw [← hs1]
        rw [hs2]
        have hrp2 : ∀ x, ({ s1 with t := joinT s1.t (s.rp e) c (s.rp d) } : St).rp x = s.rp x := fun x => hrp1 x
        have hC : Cov g s1 { s1 with t := joinT s1.t (s.rp e) c (s.rp d) } := ⟨by simp [length_join], fun x hx => hcut.rid x hx, fun x k y hx hk hE => ⟨x, y, hx, hE.lt hcut hx hk, by
          unfold Edge at hE ⊢
          simp only
          rw [haj, if_neg, if_neg]
          · exact hE
          · rintro ⟨rfl, rfl⟩; omega
          · rintro ⟨rfl, rfl⟩; omega, rfl, rfl⟩⟩
        refine ⟨hI, hcov0 _ hC (fun _ _ _ _ => trivial) ⟨s.rp e, s.rp d, hun, hvn, ?_, ?_, ?_⟩ ⟨s.rp d, s.rp e, hvn, hun, ?_, ?_, ?_⟩⟩
        · unfold Edge
          simp only
          rw [haj, if_neg (fun h' => flp_ne c h'.2.symm), if_pos ⟨rfl, rfl⟩]
        · rw [hrp2, hrp2]; exact h.rid e he
        · rw [hrp2, hrp2]; exact h.rid d hdn
        · unfold Edge
          simp only
          rw [haj, if_pos ⟨rfl, rfl⟩]
        · rw [hrp2, hrp2]; exact h.rid d hdn
        · rw [hrp2, hrp2]; exact h.rid e he
end
end Go.Proofs.Ct
namespace Go.Proofs.Ct
theorem countP_flip {M : Nat} {p p' : Nat → Bool} (hM : p M = false) (hM' : p' M = true) (hx : ∀ x, x ≠ M → p' x = p x) : ∀ n, M < n → (List.range n).countP p' = (List.range n).countP p + 1
  | 0, h => absurd h (Nat.not_lt_zero _)
  | n + 1, h => by
    rw [List.range_succ, List.countP_append, List.countP_append]
    by_cases e : n = M
    · subst e
      have : (List.range n).countP p' = (List.range n).countP p := List.countP_congr fun x hx' => by
        rw [hx x (by simp at hx'; omega)]
      simp [this, hM, hM']
    · rw [countP_flip hM hM' hx n (by omega)]
      simp [hx n e]
      omega
/-- how many cosets are dead -/
def dc (s : St) : Nat := (List.range s.t.length).countP fun x => decide (s.rp x ≠ x)
theorem dc_le (s : St) : dc s ≤ s.t.length := by
  have := List.countP_le_length (p := fun x => decide (s.rp x ≠ x)) (l := List.range s.t.length)
  simpa [dc] using this
/-- the dead with elements wait in the queue, from k (and there from the column c0) on -/
structure QI (g k c0 : Nat) (s : St) : Prop where
  dead : ∀ x, x < s.t.length → s.rp x ≠ x → ∀ c, c < 2 * g → 0 ≤ s.t.at x c → ∃ j, j < s.q.length ∧ s.q.getD j 0 = x ∧ (k < j ∨ (k = j ∧ c0 ≤ c))
  qd : ∀ j, j < s.q.length → s.q.getD j 0 < s.t.length ∧ s.rp (s.q.getD j 0) ≠ s.q.getD j 0
  cnt : s.q.length ≤ dc s
  lv : s.live + (dc s : Int) = s.t.length
/-- the dead are empty -/
structure Rest (g : Nat) (s : St) : Prop where
  inv : Inv g s
  dead : ∀ x, x < s.t.length → s.rp x ≠ x → ∀ c, c < 2 * g → s.t.at x c < 0
  lv : s.live + (dc s : Int) = s.t.length
section
variable {g : Nat} {s : St}
theorem merge_dead (h : Inv g s) {a b : Nat} (ha : a < s.t.length) (hb : b < s.t.length) (hne : s.rp a ≠ s.rp b) :
    max (s.rp a) (s.rp b) < s.t.length ∧ s.rp (max (s.rp a) (s.rp b)) = max (s.rp a) (s.rp b) ∧ (mergeS s a b).rp (max (s.rp a) (s.rp b)) ≠ max (s.rp a) (s.rp b) ∧ (∀ x, x < s.t.length → x ≠ max (s.rp a) (s.rp b) → ((mergeS s a b).rp x = x ↔ s.rp x = x)) ∧ (mergeS s a b).q = s.q ++ [max (s.rp a) (s.rp b)] ∧ (mergeS s a b).live = s.live - 1 ∧ dc (mergeS s a b) = dc s + 1 := by
  have hra := h.rid a ha
  have hrb := h.rid b hb
  have hla := h.rlt ha
  have hlb := h.rlt hb
  have hM : s.rp (max (s.rp a) (s.rp b)) = max (s.rp a) (s.rp b) := by
    rcases Nat.le_total (s.rp a) (s.rp b) with h' | h'
    · rw [Nat.max_eq_right h']; exact hrb
    · rw [Nat.max_eq_left h']; exact hra
  have hMl : max (s.rp a) (s.rp b) < s.t.length := by omega
  have h3 : (mergeS s a b).rp (max (s.rp a) (s.rp b)) ≠ max (s.rp a) (s.rp b) := by
    rw [rp_merge h ha hb hMl, hM, if_pos rfl]
    omega
  have h4 : ∀ x, x < s.t.length → x ≠ max (s.rp a) (s.rp b) → ((mergeS s a b).rp x = x ↔ s.rp x = x) := fun x hx hxM => by
    rw [rp_merge h ha hb hx]
    have hle := h.rle x hx
    split
    · rename_i e
      constructor
      · intro h'; omega
      · intro h'; omega
    · rfl
  refine ⟨hMl, hM, h3, h4, by unfold mergeS; rw [if_neg hne], by unfold mergeS; rw [if_neg hne], ?_⟩
  unfold dc
  rw [t_merge]
  have hcg : (List.range s.t.length).countP (fun x => decide ((mergeS s a b).rp x ≠ x)) = (List.range s.t.length).countP (fun x => if x = max (s.rp a) (s.rp b) then true else decide (s.rp x ≠ x)) := List.countP_congr fun x hx => by
    have hx' : x < s.t.length := by simpa using hx
    by_cases e : x = max (s.rp a) (s.rp b)
    · rw [if_pos e, e]; simp only [decide_eq_true_eq]; exact ⟨fun _ => trivial, fun _ => h3⟩
    · rw [if_neg e]; simp only [decide_eq_true_eq]; exact not_congr (h4 x hx' e)
  rw [hcg]
  refine countP_flip (M := max (s.rp a) (s.rp b)) (by simpa using hM) (by simp) (fun x hx => by rw [if_neg hx]) _ hMl
theorem QI.merge (h : Inv g s) {k c0 : Nat} (hq : QI g k c0 s) (hk : k < s.q.length ∨ (k = s.q.length ∧ c0 = 0)) {a b : Nat} (ha : a < s.t.length) (hb : b < s.t.length) : QI g k c0 (mergeS s a b) := by
  by_cases hne : s.rp a = s.rp b
  · unfold mergeS; rw [if_pos hne]; exact hq
  · obtain ⟨m1, m2, m3, m4, m5, m6, m7⟩ := merge_dead h ha hb hne
    have ht := t_merge s a b
    have hl : (mergeS s a b).q.length = s.q.length + 1 := by rw [m5]; simp
    have hold : ∀ j, j < s.q.length → (mergeS s a b).q.getD j 0 = s.q.getD j 0 := fun j hj => by rw [m5]; simp [List.getD_eq_getElem?_getD, List.getElem?_append_left hj]
    have hnew : (mergeS s a b).q.getD s.q.length 0 = max (s.rp a) (s.rp b) := by rw [m5]; simp [List.getD_eq_getElem?_getD]
    refine ⟨fun x hx hd c hc h0 => ?_, fun j hj => ?_, by rw [hl, m7]; have := hq.cnt; omega, by rw [m6, m7, ht]; have := hq.lv; omega⟩
    · rw [ht] at hx h0
      by_cases e : x = max (s.rp a) (s.rp b)
      · exact ⟨s.q.length, by omega, by rw [hnew, e], by rcases hk with hk | ⟨hk, h0'⟩ <;> omega⟩
      · obtain ⟨j, h1, h2, h3⟩ := hq.dead x hx (fun h' => hd ((m4 x hx e).2 h')) c hc h0
        exact ⟨j, by omega, by rw [hold j h1]; exact h2, h3⟩
    · rw [ht]
      rcases Nat.lt_or_ge j s.q.length with h1 | h1
      · rw [hold j h1]
        obtain ⟨h2, h3⟩ := hq.qd j h1
        refine ⟨h2, fun h' => ?_⟩
        by_cases e : s.q.getD j 0 = max (s.rp a) (s.rp b)
        · rw [e] at h3; exact h3 m2
        · exact h3 ((m4 _ h2 e).1 h')
      · obtain rfl : j = s.q.length := by omega
        rw [hnew]
        exact ⟨m1, m3⟩
theorem qlen_merge (s : St) (a b : Nat) : s.q.length ≤ (mergeS s a b).q.length ∧ ∀ j, j < s.q.length → (mergeS s a b).q.getD j 0 = s.q.getD j 0 := by
  unfold mergeS
  split
  · exact ⟨Nat.le_refl _, fun _ _ => rfl⟩
  · exact ⟨by simp, fun j hj => by simp [List.getD_eq_getElem?_getD, List.getElem?_append_left hj]⟩
theorem most_merge (s : St) (a b : Nat) : (mergeS s a b).most = s.most := by unfold mergeS; split <;> rfl
theorem step_q (h : Inv g s) {k c : Nat} (hq : QI g k c s) (hk : k < s.q.length) (hc : c < 2 * g) : QI g k (c + 1) (stepS (s.q.getD k 0) c s) ∧ s.q.length ≤ (stepS (s.q.getD k 0) c s).q.length ∧ (∀ j, j < s.q.length → (stepS (s.q.getD k 0) c s).q.getD j 0 = s.q.getD j 0) ∧ (stepS (s.q.getD k 0) c s).most = s.most := by
  obtain ⟨he, hdead⟩ := hq.qd k hk
  generalize hE : s.q.getD k 0 = e at *
  unfold stepS
  by_cases hd : s.t.at e c < 0
  · rw [if_pos hd]
    refine ⟨⟨fun x hx hdx c' hc' h0 => ?_, hq.qd, hq.cnt, hq.lv⟩, Nat.le_refl _, fun _ _ => rfl, rfl⟩
    obtain ⟨j, h1, h2, h3⟩ := hq.dead x hx hdx c' hc' h0
    refine ⟨j, h1, h2, ?_⟩
    rcases h3 with h3 | ⟨h3, h4⟩
    · exact .inl h3
    · refine .inr ⟨h3, ?_⟩
      rcases Nat.lt_or_ge c c' with h5 | h5
      · exact h5
      · obtain rfl : c = c' := by omega
        rw [← h3, hE] at h2
        rw [← h2] at h0
        omega
  · rw [if_neg hd]
    have hd' : 0 ≤ s.t.at e c := by omega
    have hcut := h.cut he hc hd'
    have hat := at_cut h he hc hd'
    have hdn : (s.t.at e c).toNat < s.t.length := by have := h.bd e he c hc; omega
    have hun := h.rlt he
    have hvn := h.rlt hdn
    have hf := flp_lt2 hc
    have hlen := length_cut s.t e c
    have hq1 : QI g k (c + 1) { s with t := cutT s.t e c } := by
      refine ⟨fun x hx hdx c' hc' h0 => ?_, fun j hj => ?_, ?_, ?_⟩
      · simp only [hlen] at hx
        simp only at h0
        rw [hat] at h0
        by_cases hz : (x = e ∧ c' = c) ∨ (x = (s.t.at e c).toNat ∧ c' = flp c)
        · rw [if_pos hz] at h0; omega
        · rw [if_neg hz] at h0
          obtain ⟨j, h1, h2, h3⟩ := hq.dead x hx hdx c' hc' h0
          refine ⟨j, h1, h2, ?_⟩
          rcases h3 with h3 | ⟨h3, h4⟩
          · exact .inl h3
          · refine .inr ⟨h3, ?_⟩
            rcases Nat.lt_or_ge c c' with h5 | h5
            · exact h5
            · obtain rfl : c = c' := by omega
              rw [← h3, hE] at h2
              exact absurd (.inl ⟨h2.symm, rfl⟩) hz
      · simp only [hlen]; exact hq.qd j hj
      · have := hq.cnt
        unfold dc at this ⊢
        simp only [hlen]
        exact this
      · have := hq.lv
        unfold dc at this ⊢
        simp only [hlen]
        exact this
    generalize hs1 : ({ s with t := cutT s.t e c } : St) = s1 at *
    have ht1 : s1.t = cutT s.t e c := by rw [← hs1]
    have hq1' : s1.q = s.q := by rw [← hs1]
    have hm1 : s1.most = s.most := by rw [← hs1]
    have hrp1 : ∀ x, s1.rp x = s.rp x := fun x => by rw [← hs1]; rfl
    have hn1 : s1.t.length = s.t.length := by rw [ht1, hlen]
    rw [← ht1] at hat ⊢
    by_cases h1 : 0 ≤ s1.t.at (s.rp e) c
    · rw [if_pos h1]
      have hw := (hcut.bd (s.rp e) (by omega) c hc).2
      obtain ⟨l1, l2⟩ := qlen_merge s1 (s1.t.at (s.rp e) c).toNat (s.rp (s.t.at e c).toNat)
      rw [hq1'] at l1 l2
      exact ⟨hq1.merge hcut (.inl (by rw [hq1']; exact hk)) (by omega) (by omega), l1, l2, by rw [most_merge, hm1]⟩
    · rw [if_neg h1]
      by_cases h2 : 0 ≤ s1.t.at (s.rp (s.t.at e c).toNat) (flp c)
      · rw [if_pos h2]
        have hw := (hcut.bd (s.rp (s.t.at e c).toNat) (by omega) (flp c) hf).2
        obtain ⟨l1, l2⟩ := qlen_merge s1 (s1.t.at (s.rp (s.t.at e c).toNat) (flp c)).toNat (s.rp e)
        rw [hq1'] at l1 l2
        exact ⟨hq1.merge hcut (.inl (by rw [hq1']; exact hk)) (by omega) (by omega), l1, l2, by rw [most_merge, hm1]⟩
      · rw [if_neg h2]
        have haj := at_join hcut (u := s.rp e) (v := s.rp (s.t.at e c).toNat) (c := c) (by omega) (by omega) hc
        have hlj := length_join s1.t (s.rp e) c (s.rp (s.t.at e c).toNat)
        refine ⟨⟨fun x hx hdx c' hc' h0 => ?_, fun j hj => ?_, ?_, ?_⟩, Nat.le_refl _, fun _ _ => rfl, rfl⟩
        · simp only [hlj] at hx
          simp only at h0
          have hdx' : s.rp x ≠ x := hdx
          rw [haj, if_neg, if_neg] at h0
          · obtain ⟨j, h3, h4, h5⟩ := hq1.dead x hx (by rw [hrp1]; exact hdx') c' hc' h0
            rw [hq1'] at h3 h4
            exact ⟨j, h3, h4, h5⟩
          · rintro ⟨rfl, -⟩
            exact hdx' (h.rid e he)
          · rintro ⟨rfl, -⟩
            exact hdx' (h.rid _ hdn)
        · simp only [hlj, hn1]; exact hq.qd j hj
        · have := hq.cnt
          unfold dc at this ⊢
          simp only [hlj, hn1]
          exact this
        · have := hq.lv
          unfold dc at this ⊢
          simp only [hlj, hn1]
          exact this
/-- one row of the queue -/
theorem proc_q (h : Inv g s) {k : Nat} (hq : QI g k 0 s) (hk : k < s.q.length) : ∀ c, c ≤ 2 * g → Inv g (procTo (s.q.getD k 0) c s) ∧ Cov g s (procTo (s.q.getD k 0) c s) ∧ QI g k c (procTo (s.q.getD k 0) c s) ∧ s.q.length ≤ (procTo (s.q.getD k 0) c s).q.length ∧ (∀ j, j < s.q.length → (procTo (s.q.getD k 0) c s).q.getD j 0 = s.q.getD j 0) ∧ (procTo (s.q.getD k 0) c s).most = s.most
  | 0, _ => ⟨h, Cov.refl h, hq, Nat.le_refl _, fun _ _ => rfl, rfl⟩
  | c + 1, hc => by
    obtain ⟨h1, h2, h3, h4, h5, h6⟩ := proc_q h hq hk c (by omega)
    have he : (procTo (s.q.getD k 0) c s).q.getD k 0 = s.q.getD k 0 := h5 k hk
    have hst := step_q h1 h3 (by omega) (show c < 2 * g by omega)
    rw [he] at hst
    obtain ⟨k1, k2, k3, k4⟩ := hst
    have hlt : s.q.getD k 0 < (procTo (s.q.getD k 0) c s).t.length := by rw [h2.n]; exact (hq.qd k hk).1
    obtain ⟨c1, c2⟩ := step_cov h1 hlt (show c < 2 * g by omega)
    exact ⟨c1, h2.trans h c2, k1, Nat.le_trans h4 k2, fun j hj => (k3 j (by omega)).trans (h5 j hj), k4.trans h6⟩
/-- the whole queue, as far as k -/
theorem coinTo_inv (h : Inv g s) (hq : QI g 0 0 s) : ∀ k, Inv g (coinTo (2 * g) k s) ∧ Cov g s (coinTo (2 * g) k s) ∧ QI g (min k (coinTo (2 * g) k s).q.length) 0 (coinTo (2 * g) k s) ∧ (coinTo (2 * g) k s).most = s.most
  | 0 => ⟨h, Cov.refl h, by rw [Nat.zero_min]; exact hq, rfl⟩
  | k + 1 => by
    obtain ⟨h1, h2, h3, h4⟩ := coinTo_inv h hq k
    unfold coinTo at h1 h2 h3 h4 ⊢
    rw [foldTo]
    generalize foldTo (fun k s => if k < s.q.length then procTo (s.q.getD k 0) (2 * g) s else s) k s = s1 at *
    by_cases hk : k < s1.q.length
    · rw [if_pos hk]
      rw [show min k s1.q.length = k by omega] at h3
      obtain ⟨p1, p2, p3, p4, -, p6⟩ := proc_q h1 h3 hk (2 * g) (Nat.le_refl _)
      refine ⟨p1, h2.trans h p2, ?_, p6.trans h4⟩
      rw [show min (k + 1) (procTo (s1.q.getD k 0) (2 * g) s1).q.length = k + 1 by omega]
      refine ⟨fun x hx hd c hc h0 => ?_, p3.qd, p3.cnt, p3.lv⟩
      obtain ⟨j, j1, j2, j3⟩ := p3.dead x hx hd c hc h0
      exact ⟨j, j1, j2, by omega⟩
    · rw [if_neg hk]
      refine ⟨h1, h2, ?_, h4⟩
      rw [show min (k + 1) s1.q.length = min k s1.q.length by omega]
      exact h3
/-- a coincidence -/
theorem coin_rest (h : Rest g s) {a b : Nat} (ha : a < s.t.length) (hb : b < s.t.length) : Rest g (coinS (2 * g) s a b) ∧ Cov g s (coinS (2 * g) s a b) ∧ (coinS (2 * g) s a b).rp a = (coinS (2 * g) s a b).rp b ∧ (coinS (2 * g) s a b).most = s.most := by
  have h0 : Inv g { s with q := [] } := ⟨h.inv.len, h.inv.bd, h.inv.rl, h.inv.rle, h.inv.rid, h.inv.back⟩
  have hq0 : QI g 0 0 { s with q := [] } := ⟨fun x hx hd c hc h0 => absurd h0 (by have := h.dead x hx hd c hc; simp only at h0; omega), fun j hj => absurd hj (by simp), Nat.zero_le _, h.lv⟩
  have hm := h0.merge (a := a) (b := b) ha hb
  obtain ⟨hc, he⟩ := Cov.merge h0 (a := a) (b := b) ha hb
  have hqm := hq0.merge h0 (.inr ⟨rfl, rfl⟩) (a := a) (b := b) ha hb
  obtain ⟨r1, r2, r3, r4⟩ := coinTo_inv hm hqm s.t.length
  have hn : (mergeS { s with q := [] } a b).t.length = s.t.length := by rw [t_merge]
  have hC : Cov g { s with q := [] } (coinTo (2 * g) s.t.length (mergeS { s with q := [] } a b)) := hc.trans h0 r2
  have hC' : Cov g s (coinTo (2 * g) s.t.length (mergeS { s with q := [] } a b)) := ⟨hC.n, hC.coarse, hC.edge⟩
  have hfin : (coinTo (2 * g) s.t.length (mergeS { s with q := [] } a b)).q.length ≤ s.t.length := by
    have h1 := r3.cnt
    have h2 := dc_le (coinTo (2 * g) s.t.length (mergeS { s with q := [] } a b))
    have h3 := hC.n
    simp only at h3
    omega
  rw [show min s.t.length (coinTo (2 * g) s.t.length (mergeS { s with q := [] } a b)).q.length = (coinTo (2 * g) s.t.length (mergeS { s with q := [] } a b)).q.length by omega] at r3
  refine ⟨⟨r1, fun x hx hd c hc' => ?_, r3.lv⟩, hC', ?_, ?_⟩
  · rcases Int.lt_or_le ((coinS (2 * g) s a b).t.at x c) 0 with h' | h'
    · exact h'
    · obtain ⟨j, j1, -, j3⟩ := r3.dead x hx hd c hc' h'
      omega
  · unfold coinS
    rw [← r2.coarse a (by rw [hn]; exact ha), ← r2.coarse b (by rw [hn]; exact hb), he]
  · unfold coinS
    rw [r4, most_merge]
end
end Go.Proofs.Ct
