/- The words of a law, whose rows are the call's own (printed by genSh.py out of L8 and L9); CosetMaps: three words more (region 7), the two permutations made; CosetMaps: relators under way, in a box that lies below the rows' world (region 15); CosetMaps: a row of another list is appended to a list of the call's own (region 21); The plain law of CosetConjugates; CosetMaps: the list of points under way (a made list below later blocks). -/
import Derived.Test.YtcfighimnkfmeaaCmCS19
import Derived.Test.YtcfighimnkfmeaaCmCS18
import Derived.Test.YtcfighimnkfmeaaCmCS17
namespace Go.Proofs
open Go.RowKit Go.Shelf Go.Proofs.Ct Go.Maps
theorem outSt_sliced {F : Nat → Prop} {w w' : World} {A : Option Addr} {c h : Nat} {l : List W} (hT : OutSt 25 F w w' (.slice A l.length c) l) (hh : h ≤ l.length) : ∃ A', sliced A 0 h c 1 = .slice A' h c ∧ OutSt 25 F w w' (.slice A' h c) (l.take h) := by
  obtain ⟨vals, ⟨h1, h2⟩, h3, h4⟩ := hT.out
  have hlen : (l.take h).length = h := by rw [List.length_take]; omega
  have hR : RowsF F w' (vals.take h) (l.take h) := by
    refine ⟨by rw [List.length_take, List.length_take]; omega, fun i hi => ?_⟩
    obtain ⟨u, hu, hx⟩ := h4 i (by omega)
    have e : (l.take h).getD i [] = l.getD i [] := by
      rw [List.getD_eq_getElem?_getD, List.getElem?_take, if_pos (by omega), List.getD_eq_getElem?_getD]
    exact ⟨u, by rw [List.getElem?_take, if_pos (by omega)]; exact hu, by rw [e]; exact hx⟩
  rcases h2 with ⟨e, h0⟩ | ⟨g, cap, cur, e, hb, hg, hn, hm, hs, ht⟩
  · obtain ⟨rfl, -, rfl⟩ := Value.slice.inj e
    obtain rfl : h = 0 := by omega
    exact ⟨none, rfl, ⟨hT.below, ⟨[], by rw [List.take_zero]; exact World.ownsRow_nil _ _ _ _, by rw [List.take_zero]; exact RowsF.nil _ _⟩, hT.fs⟩⟩
  · obtain ⟨rfl, -, rfl⟩ := Value.slice.inj e
    rcases Nat.eq_zero_or_pos c with h0 | h0
    · subst h0
      obtain rfl : h = 0 := by omega
      refine ⟨_, rfl, ⟨hT.below, ⟨[], ?_, by rw [List.take_zero]; exact RowsF.nil _ _⟩, hT.fs⟩⟩
      rw [List.take_zero]
      exact ⟨rfl, .inr ⟨g, 0, cur, rfl, hb, hg, Nat.le_refl _, hm, hs, by simp⟩⟩
    · refine ⟨some ⟨g, 0, none⟩, ?_, ⟨hT.below, ⟨vals.take h, ?_, hR⟩, hT.fs⟩⟩
      · unfold sliced
        rw [if_neg (by omega)]
        rfl
      · rw [hlen]
        refine ⟨by rw [List.length_take, h1]; omega, .inr ⟨g, c, cur, rfl, hb, hg, by omega, hm, hs, ?_⟩⟩
        rw [← ht, List.take_take, Nat.mul_one, Nat.mul_one, Nat.min_eq_left hh]
def WordsPostO (x : List W) (w : World) (e : Ending) (w' : World) : Prop := (∃ A c, e = .returned (.slice A x.length c) ∧ ∃ F, OutSt 25 F w w' (.slice A x.length c) x) ∧ Below w.heap.size w w'
def LawWordsPostO (x : List W) (w : World) (e : Ending) (w' : World) : Prop := (∃ A c, e = .returned (.slice A x.length c) ∧ ∃ F, OutSt 25 F w w' (.slice A x.length c) x) ∧ Below w.heap.size w w'
set_option maxRecDepth 100000 in
set_option maxHeartbeats 2000000 in
theorem wordsOf111_own (w : World) (v : Value) (l : List Int) (g most : Nat) (h : IntsAt w v l) (hg : 1 ≤ g ∧ g ≤ 400) (hm : most ≤ 1000) (hl : l.length ≤ 100000) : Calls Try.prog 111 #[v, .int .i64 (g : Int), .int .i64 (most : Int)] w (WordsPostO (wordsOf g most l) w) := by
  obtain ⟨A, c, rfl, h1, h2, h3⟩ := h.open_
  have HI := Lib.hid h
  have hot := OutSt.nil 25 (Below.refl w.heap.size w)
  have HOT := Lib.hid hot
  have hg0 : (0 : Int) ≤ (g : Int) := Int.natCast_nonneg _
  have hm0 : (0 : Int) ≤ (most : Int) := Int.natCast_nonneg _
  have hm1 : (most : Int) ≤ 1000 := by omega
  have HW0 : Hid (wordsOf g most l = [] ++ wordsTo g most l.length l) := Lib.hid rfl
  unfold WordsPostO
  generalize hX : wordsOf g most l = X at *
  have hln : l.length + 0 ≤ 100000 := by omega
  clear h h3 hot hX
  go_enter Try.func111, Try.ntmps111
  go_wp2_with fail
  go_loopw [0, 7] (fun sl so wr => ∃ (l2 : List Int) (f m : Nat), (∃ A c, sl = .slice A l2.length c ∧ c ≤ 9223372036854775807 ∧ Hid (IntsAt w (.slice A l2.length c) l2)) ∧ l2.length ≤ f ∧ l2.length + m ≤ 100000 ∧ ∃ F A c, so = .slice A m c ∧ ∃ rows, Hid (OutSt 25 F w wr (.slice A m c) rows) ∧ Hid (rows.length = m) ∧ Hid (X = rows ++ wordsTo g most f l2)) (fun sl _ _ => match sl with | .slice _ n _ => n | _ => 0)
  case atStart => exact ⟨l, l.length, 0, ⟨_, _, rfl, h2, HI⟩, Nat.le_refl _, hln, _, none, 0, rfl, [], HOT, Lib.hid rfl, HW0⟩
  case round =>
    clear HOT HI HW0
    obtain ⟨l2, f, m, ⟨A1, c1, rfl, hc1, HI⟩, hf, hlm, F, A2, c2, rfl, rows, HS, HRL, HX⟩ := hrel
    cases l2 with
    | nil =>
      have HE : Hid (rows = X) := Lib.hid (by have := HX.out; rw [wordsTo_nil, List.append_nil] at this; exact this.symm)
      have HT : Hid (∃ A c, Ending.returned (.slice A2 m c2) = .returned (.slice A X.length c) ∧ ∃ F, OutSt 25 F w wr (.slice A X.length c) X) := Lib.hid (by
        have h1 := HS.out
        rw [← HE.out, HRL.out]
        exact ⟨_, _, rfl, _, h1⟩)
      have HB := Lib.hid HS.out.below
      have hlen : (([] : List Int).length : Int) = 0 := rfl
      go_wp2_with fail
      go_ret
      exact ⟨HT.out, HB.out⟩
    | cons x l3 =>
      cases f with
      | zero => simp at hf
      | succ f =>
        have hTN : x % ((most + 1 : Nat) : Int) = ((x % ((most + 1 : Nat) : Int)).toNat : Int) := (Int.toNat_of_nonneg (Int.emod_nonneg x (by omega))).symm
        have hTB := Int.emod_lt_of_pos x (show (0 : Int) < ((most + 1 : Nat) : Int) by omega)
        have HTN : Hid (∀ W, Calls Try.prog 59 #[.int .i64 x, .int .i64 ((most : Int) + 1)] W fun e w' => e = .returned (.int .i64 ((x % ((most + 1 : Nat) : Int)).toNat : Int)) ∧ w' = W) := Lib.hid fun W => by
          rw [← hTN, show (most : Int) + 1 = ((most + 1 : Nat) : Int) by omega]
          exact turn59_any W x (most + 1) (by omega)
        have hstep : wordsTo g most (f + 1) (x :: l3) = wordOf g (l3.take (min (x % ((most + 1 : Nat) : Int)).toNat l3.length)) :: wordsTo g most f (l3.drop (min (x % ((most + 1 : Nat) : Int)).toNat l3.length)) := rfl
        have HX1 : Hid (X = rows ++ (wordOf g (l3.take (min (x % ((most + 1 : Nat) : Int)).toNat l3.length)) :: wordsTo g most f (l3.drop (min (x % ((most + 1 : Nat) : Int)).toNat l3.length)))) := Lib.hid (by rw [← hstep]; exact HX.out)
        generalize htz : (x % ((most + 1 : Nat) : Int)).toNat = tz at *
        have htm : tz ≤ most := by omega
        clear htz hTN hTB hstep HX
        have hll : (x :: l3).length = l3.length + 1 := rfl
        rw [hll] at HI hlm hf
        obtain ⟨n, hn⟩ : ∃ n, n = min tz l3.length := ⟨_, rfl⟩
        rw [← hn] at HX1
        have hnl : n ≤ l3.length := by omega
        have HN : Hid ((n : Int) = min (tz : Int) (l3.length : Int)) := Lib.hid (by omega)
        clear hn
        have hI : IntsAt w (.slice A1 (x :: l3).length c1) (x :: l3) := HI.out
        obtain ⟨A9, c9, e9, hq1, hq2, hq3⟩ := hI.open_
        obtain ⟨rfl, -, rfl⟩ := Value.slice.inj e9
        obtain ⟨b, o, rfl, hcc⟩ := hq3 (by simp)
        have hx0 := hcc 0 (by simp)
        have hxc := (HS.out.below.cell (p := ⟨b, o + 0, none⟩) (World.block_lt_of_cell? w _ hx0)).trans hx0
        have hxc' : wr.cell? ⟨b, o, none⟩ = some (.int .i64 x) := hxc
        obtain ⟨A3, hs1, hi1⟩ := ints_sliced (k := 1) (h := 1 + n) hI (by omega) (by simp; omega)
        obtain ⟨A4, hs2, hi2⟩ := ints_sliced (k := 1 + n) (h := l3.length + 1) hI (by omega) (by simp)
        have e1 : ((x :: l3).take (1 + n)).drop 1 = l3.take n := by rw [Nat.add_comm]; rfl
        have e2 : ((x :: l3).take (l3.length + 1)).drop (1 + n) = l3.drop n := by
          rw [show l3.length + 1 = (x :: l3).length from rfl, List.take_length, Nat.add_comm]; rfl
        have e3 : l3.length + 1 - (1 + n) = (l3.drop n).length := by rw [List.length_drop]; omega
        have e4 : 1 + n - 1 = n := by omega
        rw [e1] at hi1
        rw [e2, e3] at hi2
        rw [e4] at hi1 hs1
        rw [e3] at hs2
        have hcl : l3.length + 1 ≤ c1 := hq1
        have HI2 := Lib.hid hi2
        have HWO : Hid (Calls Try.prog 39 #[.slice A3 n (c1 - 1), .int .i64 (g : Int)] wr (WordPost (wordOf g (l3.take n)) wr)) := Lib.hid (wordOf39_any wr _ (l3.take n) g (kept_ints.below hi1 HS.out.below) (by omega) (by rw [List.length_take]; omega))
        have HFW := Lib.hid (fits_wordOf hg (l3.take n))
        have HL4 : Hid ((l3.drop n).length ≤ l3.length) := Lib.hid (by rw [List.length_drop]; omega)
        unfold WordPost at HWO
        generalize l3.take n = l5 at *
        generalize l3.drop n = l4 at *
        generalize wordOf g l5 = wd at *
        have hn0 : (0 : Int) ≤ (n : Int) := Int.natCast_nonneg _
        have hnI : (n : Int) ≤ (l3.length : Int) := by omega
        have hlI : (l3.length : Int) ≤ 100000 := by omega
        have htI : (tz : Int) ≤ 1000 := by omega
        have ht0 : (0 : Int) ≤ (tz : Int) := Int.natCast_nonneg _
        clear hcc hx0 hxc hi1 hi2 e1 e2 e4 hI e9 hq3 hll HI
        go_wp2_with (first
          | (go_at_call 59; (refine (HTN.out _).mono ?_); rintro e w1 ⟨rfl, rfl⟩)
          | ((with_reducible refine wpList_sel 21 ?_); refine wpList_val rfl (r_min2 (.tmp 17) (.tmp 20) _ _ (n : Int) rfl rfl rfl (by have := HN.out; omega)) ?_)
          | ((with_reducible refine wpList_sel 26 ?_); refine wpList_val rfl (r_slice_lohi (.tmp 23) (.const (.int .i64 1)) (.tmp 25) _ (l3.length + 1) c1 1 (1 + n) rfl rfl rfl rfl (by omega) (by omega)) ?_; rw [hs1])
          | (go_at_call 39; (refine HWO.out.mono ?_); rintro e w2 ⟨A5, c5, rfl, ho, hb⟩
             obtain ⟨A8, c8, w8, hr8, hS8⟩ := (HS.out.with_row hb ho).done (by decide) Try.underlying31 info25p HFW.out (by rw [HRL.out]; omega)
             rw [HRL.out] at hr8 hS8
             have HR8 := Lib.hid hr8
             have HS8 := Lib.hid hS8
             clear hr8 hS8 ho hb)
          | ((with_reducible refine wpList_sel 30 ?_); refine wpList_val rfl (r_app (.tmp 22) (.tmp 29) 31 rfl rfl rfl HR8.out) ?_)
          | ((with_reducible refine wpList_sel 34 ?_); refine wpList_val rfl (r_slice_lo (.tmp 31) (.tmp 33) _ (l3.length + 1) c1 (1 + n) rfl rfl rfl (by omega)) ?_; rw [show sliced (some ⟨b, o, none⟩) (1 + n) (l3.length + 1) c1 1 = _ from hs2]))
        go_roundw
        case rel => exact ⟨l4, f, m + 1, ⟨_, _, rfl, by omega, HI2⟩, by have := HL4.out; omega, by have := HL4.out; omega, _, _, _, rfl, rows ++ [wd], HS8, Lib.hid (by rw [List.length_append, HRL.out]; rfl), Lib.hid (by rw [HX1.out, List.append_assoc]; rfl)⟩
        case measure => have := HL4.out; simp; omega
set_option maxRecDepth 100000 in
set_option maxHeartbeats 2000000 in
theorem words58_own (w : World) (v : Value) (l : List Int) (g : Nat) (h : IntsAt w v l) (hg : 1 ≤ g ∧ g ≤ 400) (hl : l.length ≤ 100000) : Calls Try.prog 58 #[v, .int .i64 (g : Int)] w (LawWordsPostO (lawWords g 6 l) w) := by
  have HC : Hid (Calls Try.prog 111 #[v, .int .i64 (g : Int), .int .i64 12] w (WordsPostO (wordsOf g 12 l) w)) := Lib.hid (wordsOf111_own w v l g 12 h hg (by omega) hl)
  have hwl := wordsTo_length g 12 l.length l
  have hwl2 : (wordsOf g 12 l).length ≤ 100000 := Nat.le_trans hwl hl
  obtain ⟨A, c, rfl, h1, h2, -⟩ := h.open_
  clear h hwl
  unfold LawWordsPostO lawWords
  unfold WordsPostO at HC
  generalize wordsOf g 12 l = X at *
  have hxl : (X.length : Int) ≤ 100000 := by omega
  have hx0 : (0 : Int) ≤ (X.length : Int) := Int.natCast_nonneg _
  obtain ⟨n, hn⟩ : ∃ n, n = min X.length 6 := ⟨_, rfl⟩
  have hnx : n ≤ X.length := by omega
  have HN : Hid ((n : Int) = min (X.length : Int) 6) := Lib.hid (by omega)
  have HT : Hid ((X.take 6) = X.take n ∧ (X.take n).length = n) := Lib.hid (by
    rw [List.length_take]
    refine ⟨?_, by omega⟩
    rcases Nat.lt_or_ge X.length 6 with h | h
    · rw [List.take_of_length_le (by omega), List.take_of_length_le (by omega)]
    · rw [show n = 6 by omega])
  rw [HT.out.1]
  clear hn
  go_enter Try.func58, Try.ntmps58
  go_wp2_with (first
    | (go_at_call 111; (refine HC.out.mono ?_); rintro e w2 ⟨⟨A5, c5, rfl, F, ht⟩, hb⟩
       obtain ⟨A6, hs6, ht6⟩ := outSt_sliced ht hnx
       obtain ⟨A7, c7, e7, hc7, -, -⟩ := LAt.open_ ht.out.tab
       obtain ⟨rfl, -, rfl⟩ := Value.slice.inj e7
       have HE : Hid ((∃ A c, Ending.returned (.slice A6 n c5) = .returned (.slice A (X.take n).length c) ∧ ∃ F, OutSt 25 F w w2 (.slice A (X.take n).length c) (X.take n)) ∧ Below w.heap.size w w2) := Lib.hid ⟨⟨A6, c5, by rw [HT.out.2], F, by rw [HT.out.2]; exact ht6⟩, hb⟩
       clear ht hb ht6 e7)
    | ((with_reducible refine wpList_sel 12 ?_); refine wpList_val rfl (r_min2 (.tmp 11) (.const (.int .i64 6)) _ _ (n : Int) rfl rfl rfl (by have := HN.out; omega)) ?_)
    | ((with_reducible refine wpList_sel 13 ?_); refine wpList_val rfl (r_slice_hi31 (.tmp 9) (.tmp 12) _ X.length c5 n rfl rfl rfl (by omega)) ?_; rw [hs6]))
  go_ret
  exact HE.out
end Go.Proofs
namespace Go.Proofs
open Go.RowKit Go.Shelf Go.Proofs.Ct Go.Maps
theorem ints_heap {w : World} {g n : Nat} {row : List Int} (h : w.heap[g]? = some (.cells (ints row).toArray 3 (0, 0))) (hf : Fits row) (hn : row.length = n) (hl : n ≤ 1000) : IntsAt w (.slice (some ⟨g, 0, none⟩) n n) row := by
  subst hn
  refine ⟨⟨_, _, _, rfl, by simp [ints], Nat.le_refl _, by unfold maxLen; omega, fun _ => ⟨g, 0, rfl, fun j v hj => ?_⟩⟩, hf⟩
  rw [Nat.zero_add, cell_of_row _ _ _ _ _ _ h]
  simpa using hj
/-- the world behind the three literal words -/
def lit7 (v : World) : World := (((v.alloc (.cells #[.int .i64 1] 3)).alloc (.cells #[.int .i64 2] 3)).alloc (.cells #[.int .i64 1, .int .i64 2] 3)).alloc (.cells #[.slice (some ⟨v.heap.size, 0, none⟩) 1 1, .slice (some ⟨v.heap.size + 1, 0, none⟩) 1 1, .slice (some ⟨v.heap.size + 1 + 1, 0, none⟩) 2 2] 25)
theorem lit7_below (v : World) : Below v.heap.size v (lit7 v) := ((((Below.refl _ _).alloc (Nat.le_refl _) _).alloc (by simp) _).alloc (by simp; omega) _).alloc (by simp; omega) _
theorem lit7_at (v : World) : (lit7 v).heap[v.heap.size]? = some (.cells (ints [1]).toArray 3 (0, 0)) ∧ (lit7 v).heap[v.heap.size + 1]? = some (.cells (ints [2]).toArray 3 (0, 0)) ∧ (lit7 v).heap[v.heap.size + 1 + 1]? = some (.cells (ints [1, 2]).toArray 3 (0, 0)) ∧
    (lit7 v).heap[v.heap.size + 1 + 1 + 1]? = some (.cells #[.slice (some ⟨v.heap.size, 0, none⟩) 1 1, .slice (some ⟨v.heap.size + 1, 0, none⟩) 1 1, .slice (some ⟨v.heap.size + 1 + 1, 0, none⟩) 2 2] 25 (0, 0)) ∧ (lit7 v).heap.size = v.heap.size + 4 := by
  have h1 := heap_alloc_new v (.cells #[.int .i64 1] 3)
  have h2 := heap_alloc_new (v.alloc (.cells #[.int .i64 1] 3)) (.cells #[.int .i64 2] 3)
  have h3 := heap_alloc_new ((v.alloc (.cells #[.int .i64 1] 3)).alloc (.cells #[.int .i64 2] 3)) (.cells #[.int .i64 1, .int .i64 2] 3)
  have h4 := heap_alloc_new (((v.alloc (.cells #[.int .i64 1] 3)).alloc (.cells #[.int .i64 2] 3)).alloc (.cells #[.int .i64 1, .int .i64 2] 3)) (.cells #[.slice (some ⟨v.heap.size, 0, none⟩) 1 1, .slice (some ⟨v.heap.size + 1, 0, none⟩) 1 1, .slice (some ⟨v.heap.size + 1 + 1, 0, none⟩) 2 2] 25)
  simp only [World.size_alloc] at h2 h3 h4
  have b2 := (Below.refl _ (v.alloc (.cells #[.int .i64 1] 3))).alloc (Nat.le_refl _) (.cells #[.int .i64 2] 3)
  have b3 := (Below.refl _ ((v.alloc (.cells #[.int .i64 1] 3)).alloc (.cells #[.int .i64 2] 3))).alloc (Nat.le_refl _) (.cells #[.int .i64 1, .int .i64 2] 3)
  have b4 := (Below.refl _ (((v.alloc (.cells #[.int .i64 1] 3)).alloc (.cells #[.int .i64 2] 3)).alloc (.cells #[.int .i64 1, .int .i64 2] 3))).alloc (Nat.le_refl _) (.cells #[.slice (some ⟨v.heap.size, 0, none⟩) 1 1, .slice (some ⟨v.heap.size + 1, 0, none⟩) 1 1, .slice (some ⟨v.heap.size + 1 + 1, 0, none⟩) 2 2] 25)
  have e1 := (b4.block v.heap.size (by simp only [World.size_alloc]; omega)).trans ((b3.block v.heap.size (by simp only [World.size_alloc]; omega)).trans ((b2.block v.heap.size (by simp only [World.size_alloc]; omega)).trans h1))
  have e2 := (b4.block (v.heap.size + 1) (by simp only [World.size_alloc]; omega)).trans ((b3.block (v.heap.size + 1) (by simp only [World.size_alloc]; omega)).trans h2)
  have e3 := (b4.block (v.heap.size + 1 + 1) (by simp only [World.size_alloc]; omega)).trans h3
  exact ⟨e1, e2, e3, h4, by unfold lit7; simp only [World.size_alloc]⟩
theorem lit7_tab (v : World) : TabS (fun k => v.heap.size ≤ k ∧ k < (lit7 v).heap.size) (lit7 v) (.slice (some ⟨v.heap.size + 1 + 1 + 1, 0, none⟩) 3 3) [[1], [2], [1, 2]] := by
  obtain ⟨h1, h2, h3, h4, h5⟩ := lit7_at v
  refine ⟨[.slice (some ⟨v.heap.size, 0, none⟩) 1 1, .slice (some ⟨v.heap.size + 1, 0, none⟩) 1 1, .slice (some ⟨v.heap.size + 1 + 1, 0, none⟩) 2 2], fun w' ha => ?_, rfl, fun j hj => ?_⟩
  · have h6 := (ha (v.heap.size + 1 + 1 + 1) ⟨by omega, by omega⟩).trans h4
    refine ⟨_, 3, 3, rfl, rfl, Nat.le_refl _, by simp [maxLen], fun _ => ⟨v.heap.size + 1 + 1 + 1, 0, rfl, fun m u hu => ?_⟩⟩
    rw [cell_of_row _ _ _ _ _ _ h6, Nat.zero_add]
    simpa using hu
  · have hf : ∀ l : List Int, (∀ x ∈ l, x = 1 ∨ x = 2) → Fits l := fun l h x hx => by
      rcases h x hx with rfl | rfl <;> decide
    have : j = 0 ∨ j = 1 ∨ j = 2 := by simp at hj; omega
    rcases this with rfl | rfl | rfl
    · exact ⟨_, rfl, fun w' ha => ints_heap ((ha _ ⟨by omega, by omega⟩).trans h1) (hf _ (by simp)) rfl (by omega)⟩
    · exact ⟨_, rfl, fun w' ha => ints_heap ((ha _ ⟨by omega, by omega⟩).trans h2) (hf _ (by simp)) rfl (by omega)⟩
    · exact ⟨_, rfl, fun w' ha => ints_heap ((ha _ ⟨by omega, by omega⟩).trans h3) (hf _ (by simp)) rfl (by omega)⟩
/-- the three words are appended to words of the call's own -/
theorem rel3 {F : Nat → Prop} {w v : World} {A : Option Addr} {n c : Nat} {X : List W} (h : OutSt 25 F w v (.slice A n c) X) (hn : X.length = n) (hx : n ≤ 1000) :
    ∃ A' c' w5, (Builtin.append_ #[31, 31] 31 #[.slice A n c, .slice (some ⟨v.heap.size + 1 + 1 + 1, 0, none⟩) 3 3]).run Try.prog (lit7 v) = .ok (.slice A' (n + 3) c') w5 ∧ TabB w.heap.size w5 (.slice A' (n + 3) c') (X ++ [[1], [2], [1, 2]]) ∧ Below w.heap.size w w5 := by
  have hb := lit7_below v
  have hub := h.out.block
  have hblk : ∀ r, (Value.slice A n c).ownBlock = some r → r < v.heap.size := fun r hr => by
    obtain ⟨-, C, hC⟩ := hub r hr
    exact (Array.getElem?_eq_some_iff.1 hC).1
  have ho : OwnT 25 w.heap.size F (lit7 v) (.slice A n c) X := h.out.keep (fun r hr => hb.block r (hblk r hr)) (fun k hk => hb.block k (h.fs k hk).2.1) (fun _ h => h)
  obtain ⟨A', c', w5, hr, hO, hg, -⟩ := app_rows (t := 31) (ty := 31) Try.underlying31 (lit7 v) w.heap.size F (.slice A n c) X ho _ _ _ (lit7_tab v) (fun k hk => ⟨Nat.lt_of_lt_of_le (h.fs k hk).2.1 hb.size, fun e => by
      obtain ⟨-, C, hC⟩ := hub k e
      obtain ⟨-, -, C2, hC2⟩ := h.fs k hk
      rw [hC2] at hC
      cases hC⟩) (fun k hk => ⟨hk.2, fun e => by have := hblk k e; have := hk.1; omega⟩) (by omega) (by simp) (Nat.le_trans h.below.size hb.size)
  have el : (X ++ [[1], [2], [1, 2]]).length = n + 3 := by simp [hn]
  rw [el] at hr hO
  have hbo := hO.block
  refine ⟨A', c', w5, hr, fun w' hw => ?_, grown_below rfl (bl3 h.below hb) hg fun r hr => (hub r hr).1⟩
  refine (hO.keep (G := fun k => F k ∨ (v.heap.size ≤ k ∧ k < (lit7 v).heap.size)) (fun r hr => ?_) (fun k hk => ?_) fun _ h => h).tab
  · obtain ⟨h1, C, hC⟩ := hbo r hr
    exact hw r h1 (Array.getElem?_eq_some_iff.1 hC).1
  · rcases hk with hk | hk
    · exact hw k (h.fs k hk).1 (Nat.lt_of_lt_of_le (h.fs k hk).2.1 (Nat.le_trans hb.size hg.size))
    · exact hw k (Nat.le_trans h.below.size hk.1) (Nat.lt_of_lt_of_le hk.2 hg.size)
theorem bs83_2 (A B : Option Addr) (n m c k : Nat) (w : World) : (Instr.buildSlice 83 2 #[(0, .slice A n c), (1, .slice B m k)]).run Try.prog w = .ok (.slice (some ⟨w.heap.size, 0, none⟩) 2 2) (w.alloc (.cells #[.slice A n c, .slice B m k] 81)) := by kernel_rfl
theorem two_new {w : World} {va vb : Value} {a b : List Nat} (ha : IntsAt w va (nz a)) (hb : IntsAt w vb (nz b)) : Two (w.alloc (.cells #[va, vb] 81)) (.slice (some ⟨w.heap.size, 0, none⟩) 2 2) a b := by
  have hal : Below w.heap.size w (w.alloc (.cells #[va, vb] 81)) := (Below.refl _ _).alloc (Nat.le_refl _) _
  have hnew := heap_alloc_new w (.cells #[va, vb] 81)
  refine ⟨[va, vb], ⟨_, 2, 2, rfl, rfl, Nat.le_refl _, by simp [maxLen], fun _ => ⟨w.heap.size, 0, rfl, fun j v hj => ?_⟩⟩, rfl, fun i hi => ?_⟩
  · rw [cell_of_row _ _ _ _ _ _ hnew, Nat.zero_add]
    simpa using hj
  · have : i = 0 ∨ i = 1 := by simp at hi; omega
    rcases this with rfl | rfl
    · exact ⟨_, rfl, ha.below hal⟩
    · exact ⟨_, rfl, hb.below hal⟩
end Go.Proofs
namespace Go.Proofs
open Go.RowKit Go.Shelf Go.Proofs.Ct Go.Maps
theorem size_setCell' (w : World) (a : Addr) (v : Value) : (w.setCell a v).heap.size = w.heap.size := by simp [World.setCell]
/-- the same cell is set in both worlds -/
theorem below_both {w0 w' : World} (h : Below w0.heap.size w0 w') (b k : Nat) (v : Value) : Below (w0.setCell ⟨b, k, none⟩ v).heap.size (w0.setCell ⟨b, k, none⟩ v) (w'.setCell ⟨b, k, none⟩ v) := by
  refine ⟨h.os, h.tape, h.output, by rw [size_setCell', size_setCell']; exact h.size, fun q hq => ?_⟩
  rw [size_setCell'] at hq
  have := h.block q hq
  simp only [World.setCell, Array.getElem?_modify, this]
/-- p's relators: the box bx lies below, the rows above v8 -/
structure RelS (v8 : World) (bx : Nat) (F : Nat → Prop) (wr : World) (A : Option Addr) (c : Nat) (acc : List W) : Prop where
  st : ∃ w0 : World, w0.heap.size = v8.heap.size ∧ (∀ k, k ≠ bx → w0.heap[k]? = v8.heap[k]?) ∧ (w0.os = v8.os ∧ w0.tape = v8.tape ∧ w0.output = v8.output) ∧ OutSt 25 F w0 wr (.slice A acc.length c) acc
  box : wr.heap[bx]? = some (.cells #[.int .i64 2, .slice A acc.length c] 40 (0, 0))
  lt : bx < v8.heap.size
theorem RelS.start {v8 : World} {bx : Nat} (h : v8.heap[bx]? = some (.cells #[.int .i64 2, .slice none 0 0] 40 (0, 0))) : RelS v8 bx (fun _ => False) v8 none 0 [] :=
  ⟨⟨v8, rfl, fun _ _ => rfl, ⟨rfl, rfl, rfl⟩, OutSt.nil 25 (Below.refl _ _)⟩, h, (Array.getElem?_eq_some_iff.1 h).1⟩
theorem RelS.kept {v8 wr : World} {bx c : Nat} {F : Nat → Prop} {A : Option Addr} {acc : List W} (h : RelS v8 bx F wr A c acc) {k : Nat} (hk : k < v8.heap.size) (hn : k ≠ bx) : wr.heap[k]? = v8.heap[k]? := by
  obtain ⟨w0, h1, h2, h4, h3⟩ := h.st
  exact (h3.below.block k (by rw [h1]; exact hk)).trans (h2 k hn)
theorem RelS.size {v8 wr : World} {bx c : Nat} {F : Nat → Prop} {A : Option Addr} {acc : List W} (h : RelS v8 bx F wr A c acc) : v8.heap.size ≤ wr.heap.size := by
  obtain ⟨w0, h1, h2, h4, h3⟩ := h.st
  rw [← h1]
  exact h3.below.size
theorem RelS.below' {v8 wr w1 : World} {bx c : Nat} {F : Nat → Prop} {A : Option Addr} {acc : List W} (h : RelS v8 bx F wr A c acc) (hb : Below wr.heap.size wr w1) : RelS v8 bx F w1 A c acc := by
  obtain ⟨w0, h1, h2, h4, h3⟩ := h.st
  exact ⟨⟨w0, h1, h2, h4, h3.below' hb⟩, (hb.block _ (Array.getElem?_eq_some_iff.1 h.box).1).trans h.box, h.lt⟩
theorem RelS.rels {v8 wr : World} {bx c : Nat} {F : Nat → Prop} {A : Option Addr} {acc : List W} (h : RelS v8 bx F wr A c acc) : Tab wr (.slice A acc.length c) acc := by
  obtain ⟨w0, h1, h2, h4, h3⟩ := h.st
  exact h3.out.tab
theorem RelS.belowW {w v8 wr : World} {bx c : Nat} {F : Nat → Prop} {A : Option Addr} {acc : List W} (h : RelS v8 bx F wr A c acc) (hb : Below w.heap.size w v8) (hx : w.heap.size ≤ bx) : Below w.heap.size w wr := by
  have hk := fun k => h.kept (k := k)
  have hs := h.size
  obtain ⟨w0, h1, h2, ⟨o1, o2, o3⟩, h3⟩ := h.st
  exact ⟨(h3.below.os.trans o1).trans hb.os, (h3.below.tape.trans o2).trans hb.tape, (h3.below.output.trans o3).trans hb.output, Nat.le_trans hb.size hs, fun k hk2 => (hk k (Nat.lt_of_lt_of_le hk2 hb.size) (by omega)).trans (hb.block k hk2)⟩
theorem RelS.push {v8 wr w1 : World} {bx c : Nat} {F : Nat → Prop} {A : Option Addr} {acc : List W} (h : RelS v8 bx F wr A c acc) {Ax : Option Addr} {cx : Nat} {x : List Int} (hb : Below wr.heap.size wr w1) (hx : OwnI wr.heap.size w1 (.slice Ax x.length cx) x) (hf : Fits x) (hl : acc.length ≤ 1000000) :
    ∃ A' c' w', (Builtin.append_ #[31, 31] 31 #[.slice A acc.length c, .slice (some ⟨w1.heap.size, 0, none⟩) 1 1]).run Try.prog (w1.alloc (.cells #[.slice Ax x.length cx] 25)) = .ok (.slice A' (acc.length + 1) c') w' ∧
      (w'.cell? ⟨bx, 1, none⟩ = some (.slice A acc.length c) ∧ w'.frozen? ⟨bx, 1, none⟩ = false) ∧
      RelS v8 bx (fun k => F k ∨ (Value.slice Ax x.length cx).ownBlock = some k) (w'.setCell ⟨bx, 1, none⟩ (.slice A' (acc.length + 1) c')) A' c' (acc ++ [x]) := by
  obtain ⟨w0, h1, h2, h4, h3⟩ := h.st
  have hbx1 := (h.below' hb).box
  obtain ⟨A', c', w', hr, hS, hg⟩ := (h3.with_row hb hx).done' (t := 31) (e := 25) (by decide) Try.underlying31 info25p hf hl
  have hlt := h.lt
  have hbx : w'.heap[bx]? = some (.cells #[.int .i64 2, .slice A acc.length c] 40 (0, 0)) := grown_cells hg hbx1 fun e => by
    have := ((h3.below' hb).out.block _ e).1
    omega
  have hne : ∀ k, w0.heap.size ≤ k → k ≠ bx := fun k hk => by omega
  have hsz := size_setCell' w0 ⟨bx, 1, none⟩ (.slice A' (acc.length + 1) c')
  have el : (acc ++ [x]).length = acc.length + 1 := by simp
  refine ⟨A', c', w', hr, ⟨(cell_of2 hbx).2, by simp [World.frozen?, hbx]⟩, ⟨⟨w0.setCell ⟨bx, 1, none⟩ (.slice A' (acc.length + 1) c'), by rw [hsz]; exact h1, fun k hk => (heap_setCell_other w0 _ k _ hk).trans (h2 k hk), h4, ⟨below_both hS.below bx 1 _, ?_, fun k hk => ?_⟩⟩, ?_, hlt⟩⟩
  · rw [hsz, el]
    exact hS.out.keep (fun r hr => heap_setCell_other w' _ r _ (hne r (hS.out.block r hr).1)) (fun k hk => heap_setCell_other w' _ k _ (hne k (hS.fs k hk).1)) fun _ h => h
  · obtain ⟨f1, f2, C, f3⟩ := hS.fs k hk
    rw [hsz, size_setCell']
    exact ⟨f1, f2, C, (heap_setCell_other w' _ k _ (hne k f1)).trans f3⟩
  · rw [el, box_set hbx]
    rfl
end Go.Proofs
namespace Go.Proofs
open Go.RowKit Go.Shelf Go.Proofs.Ct Go.Maps
/-- F are blocks that lie below base -/
theorem rows_share {base : Nat} {w : World} {F : Nat → Prop} {v : Value} {rows : List (List Int)} (h : OwnT 25 base F w v rows) (hF : ∀ k, F k → k < base) (hb : base ≤ w.heap.size) {A : Option Addr} {c : Nat} {x : List Int} (hx : IntsF F w (.slice A x.length c) x) (hl : rows.length ≤ 1000000) :
    ∃ A' c' w', (Builtin.append_ #[31, 31] 31 #[v, .slice (some ⟨w.heap.size, 0, none⟩) 1 1]).run Try.prog (w.alloc (.cells #[.slice A x.length c] 25)) = .ok (.slice A' (rows.length + 1) c') w' ∧ OwnT 25 base F w' (.slice A' (rows.length + 1) c') (rows ++ [x]) ∧ w.grownBy w' v.ownBlock := by
  obtain ⟨vals, h1, h2⟩ := h
  obtain ⟨A', c', w', hr, ho, hg, -⟩ := run_push (ty := 31) Try.underlying31 info25p rfl (by omega) w base v rows.length vals h1 (.slice A x.length c) rfl (by omega) hb
  have ag : Ag F w w' := Ag.grown hg fun k hk => ⟨Nat.lt_of_lt_of_le (hF k hk) hb, fun e => by
    have := (owns_block h1 k e).1
    have := hF k hk
    omega⟩
  refine ⟨A', c', w', hr, ⟨vals ++ [.slice A x.length c], ?_, (h2.keep ag fun _ h => h).snoc (hx.keep ag)⟩, hg⟩
  rw [show (rows ++ [x]).length = rows.length + 1 by simp]
  exact ho
end Go.Proofs
namespace Go.Proofs
open Go.RowKit Go.Shelf Go.Proofs.Ct Go.Maps
theorem complete_full {g : Nat} {t : Tb} (h : Full g t) : complete t = true := complete_true fun r hr c hc e => by
  have := h.pos r hr c (by rw [← h.good.len r hr]; exact hc)
  unfold Tb.at at this
  omega
end Go.Proofs
namespace Go.Proofs
open Go.RowKit Go.Shelf Go.Proofs.Ct Go.Maps
def ptRow (f : Nat → Nat) (n k : Nat) : List Int := (List.range n).map fun i => if i < k then ((f i : Nat) : Int) else 0
theorem length_ptRow (f : Nat → Nat) (n k : Nat) : (ptRow f n k).length = n := by simp [ptRow]
theorem ptRow_set {f : Nat → Nat} {n k : Nat} (_hk : k < n) : (ptRow f n k).set k ((f k : Nat) : Int) = ptRow f n (k + 1) := by
  apply List.ext_getElem
  · simp [ptRow]
  · intro i h1 h2
    simp only [ptRow, List.getElem_set, List.getElem_map, List.getElem_range]
    by_cases e : k = i
    · subst e
      rw [if_pos rfl, if_pos (by omega)]
    · rw [if_neg e]
      by_cases h : i < k
      · rw [if_pos h, if_pos (by omega)]
      · rw [if_neg h, if_neg (by omega)]
theorem ptRow_zero (f : Nat → Nat) (n : Nat) : (ints (ptRow f n 0)).toArray = Array.replicate n (.int .i64 0) := by
  have : ints (ptRow f n 0) = List.replicate n (.int .i64 0) := by
    apply List.ext_getElem
    · simp [ptRow, ints]
    · intro i h1 h2; simp [ptRow, ints]
  rw [this, List.toArray_replicate]
theorem ptRow_get {f : Nat → Nat} {n k i : Nat} (hi : i < n) (hk : i < k) : (ptRow f n k).getD i 0 = ((f i : Nat) : Int) := by
  unfold ptRow
  rw [List.getD_eq_getElem?_getD, List.getElem?_map, List.getElem?_range hi]
  simp only [Option.map_some, Option.getD_some]
  rw [if_pos hk]
/-- one list of numbers has been written, all else is as it was -/
structure PtS (w0 : World) (g : Nat) (row : List Int) (wr : World) : Prop where
  blk : wr.heap[g]? = some (.cells (ints row).toArray 3 (0, 0))
  oth : ∀ k, k ≠ g → wr.heap[k]? = w0.heap[k]?
  sz : wr.heap.size = w0.heap.size
  io : wr.os = w0.os ∧ wr.tape = w0.tape ∧ wr.output = w0.output
theorem PtS.at_ {w0 wr : World} {g : Nat} {row : List Int} (h : PtS w0 g row wr) {k : Nat} (hk : k < row.length) : wr.cell? ⟨g, k, none⟩ = some (.int .i64 (row.getD k 0)) := by
  rw [cell_of_row _ _ _ _ _ _ h.blk]
  simp [ints, List.getD_eq_getElem?_getD, hk]
theorem PtS.set {w0 wr : World} {g : Nat} {row : List Int} (h : PtS w0 g row wr) {k : Nat} (x : Int) : PtS w0 g (row.set k x) (wr.setCell ⟨g, k, none⟩ (.int .i64 x)) := by
  refine ⟨?_, fun q hq => (heap_setCell_other wr _ q _ hq).trans (h.oth q hq), (by rw [size_setCell']; exact h.sz), h.io⟩
  rw [box_set h.blk]
  congr 2
  simp [ints, List.map_set]
theorem PtS.start {w : World} {g n : Nat} {f : Nat → Nat} (h : w.heap[g]? = some (.cells (Array.replicate n (.int .i64 0)) 3 (0, 0))) : PtS w g (ptRow f n 0) w :=
  ⟨by rw [ptRow_zero]; exact h, fun _ _ => rfl, rfl, rfl, rfl, rfl⟩
theorem PtS.below {w w0 wr : World} {g : Nat} {row : List Int} (h : PtS w0 g row wr) (hb : Below w.heap.size w w0) (hg : w.heap.size ≤ g) : Below w.heap.size w wr :=
  ⟨h.io.1.trans hb.os, h.io.2.1.trans hb.tape, h.io.2.2.trans hb.output, by rw [h.sz]; exact hb.size, fun k hk => (h.oth k (by omega)).trans (hb.block k hk)⟩
theorem call65 (args : Array Value) (w : World) : (callFunc 65 args).run Try.prog w = .ok (.enter 65 args) w := enters_of Try.func65 (by kernel_rfl) rfl args w
theorem sub_lit (w : World) (i j z : Int) (h : i - j = z) (hz : -9223372036854775808 ≤ z ∧ z ≤ 9223372036854775807) : (binOp .sub 3 (.int .i64 i) (.int .i64 j)).run Try.prog w = .ok (.int .i64 z) w := by
  subst h
  simp [go_sem, IntWalk.i64_in _ hz]
theorem r_sub {o : Oper} {a : Act} {w : World} (x : Operand) (i j z : Int) (h : i - j = z) (hz : -9223372036854775808 ≤ z ∧ z ≤ 9223372036854775807) (ho : o.op = .binOp .sub 3 x (.const (.int .i64 j)) 3) (hx : a.eval x = .int .i64 i) : (execOp a.eval o).run Try.prog w = .ok (.value (.int .i64 z)) w := by
  have h := sub_lit w i j z h hz
  have hc : a.eval (.const (.int .i64 j)) = .int .i64 j := rfl
  unfold execOp
  have hg : (eqGuard BinOp.sub 3 x (.const (.int .i64 j)) (.int .i64 i) (.int .i64 j)).run Try.prog w = .ok () w := rfl
  simp only [ho, hx, hc, Sem.run_bind, hg, h, Result.andThen_ok]
  rfl
theorem r_ne_same {o : Oper} {a : Act} {w : World} (x y : Operand) (z : Int) (ho : o.op = .binOp .neq 3 x y 3) (hx : a.eval x = .int .i64 z) (hy : a.eval y = .int .i64 z) : (execOp a.eval o).run Try.prog w = .ok (.value (.bool false)) w := by
  have h : (binOp .neq 3 (.int .i64 z) (.int .i64 z)).run Try.prog w = .ok (.bool false) w := by simp [go_sem]
  have hg : (eqGuard BinOp.neq 3 x y (.int .i64 z) (.int .i64 z)).run Try.prog w = .ok () w := rfl
  unfold execOp
  simp only [ho, hx, hy, Sem.run_bind, hg, h, Result.andThen_ok]
  rfl
end Go.Proofs
