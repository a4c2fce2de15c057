/- smith.Abelian for all presentations; The reference's Check and Sums of a word; What a call of the reference's procedure may turn: of the rows of numbers only those that its state names; The steps of the procedure, as the reference's loop takes them: plainly; What a step leaves of the diagonal: the places that are done; What the reference's Smith holds beside its state: the list of the diagonal as it grows. -/
import Derived.Test.YthfachbkcmifbaaGreatGrCS8
import Derived.Test.YthfachbkcmifbaaGreatGrCS3
import Derived.Test.YthfachbkcmifbaaGreatGrCS6
namespace Go.Proofs
open Go.RowKit Go.Shelf Go.Proofs.Sm
def badW (n : Nat) (c : Int) : Bool := decide (c = 0) || decide ((n : Int) < c) || decide (c < -(n : Int))
/-- the error of a word -/
def wordE (n : Nat) (xs : List Int) : Int := if 4000 < xs.length then 4 else if xs.any (badW n) = true then 2 else 0
theorem wordOk_of {n : Nat} {xs : List Int} (h : wordE n xs = 0) : WordOk n xs := by
  unfold wordE at h
  by_cases h1 : 4000 < xs.length
  · rw [if_pos h1] at h; omega
  · rw [if_neg h1] at h
    by_cases h2 : xs.any (badW n) = true
    · rw [if_pos h2] at h; omega
    · rw [Bool.not_eq_true, List.any_eq_false] at h2
      refine ⟨by omega, fun c hc => ?_⟩
      have := h2 c hc
      unfold badW at this
      simp at this
      omega
set_option maxRecDepth 100000 in
theorem check61_bad (w : World) (v : Value) (xs : List Int) (n : Nat) (h : IntsAt w v xs) (hn : 1 ≤ n) (hn2 : n ≤ 16) (hk : wordE n xs ≠ 0) : Calls Tryz.prog 41 #[v, .int .i64 (n : Int)] w fun e w' => e = .returned (.int .i64 (wordE n xs)) ∧ ∃ q, w' = w.drewN q := by
  obtain ⟨A, c, rfl, h1, h2, h3⟩ := h.open_
  have HC := Lib.hid h3
  have hni : (1 : Int) ≤ (n : Int) := by omega
  have hni2 : (n : Int) ≤ 16 := by omega
  obtain ⟨R, hR⟩ : ∃ R, R = wordE n xs := ⟨_, rfl⟩
  rw [← hR] at hk ⊢
  by_cases hl : 4000 < xs.length
  · have HE : Hid (R = 4) := Lib.hid (by rw [hR]; unfold wordE; rw [if_pos hl])
    have hli : (4000 : Int) < (xs.length : Int) := by omega
    clear h h3 hk hR
    generalize xs.length = L at *
    go_enter Tryz.func41, Tryz.ntmps41
    go_wp2_with fail
    go_ret
    exact ⟨ret_int HE.out.symm, 0, rfl⟩
  · have hli : (xs.length : Int) ≤ 4000 := by omega
    have hany : xs.any (badW n) = true := by
      rw [hR] at hk
      unfold wordE at hk
      rw [if_neg hl] at hk
      by_cases h2 : xs.any (badW n) = true
      · exact h2
      · rw [if_neg h2] at hk; exact absurd rfl hk
    have HE : Hid (R = 2) := Lib.hid (by rw [hR]; unfold wordE; rw [if_neg hl, if_pos hany])
    have HEX : Hid (¬ ∀ j, j < xs.length → badW n (xs.getD j 0) = false) := Lib.hid fun hh => by
      obtain ⟨x, hx, hb⟩ := List.any_eq_true.1 hany
      obtain ⟨j, hj, rfl⟩ := List.getElem_of_mem hx
      have := hh j hj
      rw [List.getD_eq_getElem?_getD, List.getElem?_eq_getElem hj] at this
      rw [Option.getD_some] at this
      rw [this] at hb
      cases hb
    clear h h3 hk hR hany
    obtain ⟨L, hL⟩ : ∃ L, L = xs.length := ⟨_, rfl⟩
    rw [← hL] at HEX h1 HC hl hli ⊢
    clear hL
    go_enter Tryz.func41, Tryz.ntmps41
    go_wp2_with fail
    go_loopw [18] (fun z wr => ∃ k : Nat, k ≤ L ∧ z = .int .i64 k ∧ Hid (∀ j, j < k → badW n (xs.getD j 0) = false) ∧ ∃ q, wr = w.drewN q) (fun z _ => L - (intOf z).toNat)
    case atStart => exact ⟨0, by omega, rfl, Lib.hid fun j hj => absurd hj (by omega), 0, rfl⟩
    case round =>
      obtain ⟨k, hk, rfl, HZ, q, rfl⟩ := hrel
      have hk0 : (0 : Int) ≤ (k : Int) := Int.natCast_nonneg _
      by_cases hkl : k < L
      · have hkl' : (k : Int) < (L : Int) := by omega
        obtain ⟨b, o, rfl, hcc⟩ := HC.out (by omega)
        have hx := hcc k hkl
        have HS := Lib.hid fun hb => all_succ (p := fun j => badW n (xs.getD j 0) = false) HZ.out hb
        clear hcc
        generalize xs.getD k 0 = z at *
        by_cases f1 : z = 0
        · have g1 : (z == 0) = true := by simpa using f1
          clear f1
          go_wp2_with fail
          go_ret
          exact ⟨ret_int HE.out.symm, _, rfl⟩
        · have g1 : (z == 0) = false := by simpa using f1
          by_cases f2 : (n : Int) < z
          · have g2 : decide ((n : Int) < z) = true := decide_eq_true f2
            clear f1 f2
            go_wp2_with fail
            go_ret
            exact ⟨ret_int HE.out.symm, _, rfl⟩
          · have g2 : decide ((n : Int) < z) = false := decide_eq_false f2
            by_cases f3 : z < -(n : Int)
            · have g3 : decide (z < -(n : Int)) = true := decide_eq_true f3
              clear f1 f2 f3
              go_wp2_with fail
              go_ret
              exact ⟨ret_int HE.out.symm, _, rfl⟩
            · have g3 : decide (z < -(n : Int)) = false := decide_eq_false f3
              have HN : Hid (badW n z = false) := Lib.hid (by unfold badW; rw [decide_eq_false f1, g2, g3]; rfl)
              clear f1 f2 f3
              go_wp2_with fail
              go_roundw
              case rel => exact ⟨k + 1, by omega, by go_num, Lib.hid (HS.out HN.out), (by first | exact ⟨_, rfl⟩ | exact ex_drewN)⟩
              case measure => simp [intOf]; omega
      · obtain rfl : k = L := by omega
        exact absurd HZ.out HEX.out
theorem sums44_bad (w : World) (v : Value) (xs : List Int) (n : Nat) (h : IntsAt w v xs) (hn : 1 ≤ n) (hn2 : n ≤ 16) (hk : wordE n xs ≠ 0) : Calls Tryz.prog 18 #[v, .int .i64 (n : Int)] w fun e w' => e = .returned (.tuple #[.slice none 0 0, .int .i64 (wordE n xs)]) ∧ ∃ q, w' = w.drewN q := by
  have HC := Lib.hid (check61_bad w v xs n h hn hn2 hk)
  obtain ⟨A, c, rfl, -, -, -⟩ := h.open_
  have hd : (wordE n xs != 0) = true := by simpa using hk
  clear h hk
  generalize wordE n xs = R at *
  go_enter Tryz.func18, Tryz.ntmps18
  go_wp2_with (go_at_call 41; (refine HC.out.mono ?_); rintro e w' ⟨rfl, q, rfl⟩)
  go_ret2
  exact ⟨rfl, _, rfl⟩
theorem abelian26_range (w : World) (v : Value) (R : List (List Int)) (n : Int) (h : Tab w v R) (hn : n < 1 ∨ 16 < n) : Calls Tryz.prog 5 #[.agg #[.int .i64 n, v]] w (GroupPost [] 0 2 w) := by
  obtain ⟨A, c, rfl, h1, h2, -⟩ := LAt.open_ h
  have hb0 : Below w.heap.size w (w.alloc (.cells #[.int .i64 n, .slice A R.length c] 24)) := (Below.refl _ _).alloc (Nat.le_refl _) _
  have HB0 := Lib.hid hb0
  clear h hb0
  generalize R.length = L at *
  by_cases h1 : n < 1
  · have hd1 : decide (n < 1) = true := decide_eq_true h1
    clear hn h1
    go_enter Tryz.func5, Tryz.ntmps5
    go_wp2_with fail
    go_ret3
    exact ⟨⟨_, rfl, intsAt_nil⟩, HB0.out⟩
  · have hd1 : decide (n < 1) = false := decide_eq_false h1
    have hd2 : decide ((16 : Int) < n) = true := decide_eq_true (by omega)
    clear hn h1
    go_enter Tryz.func5, Tryz.ntmps5
    go_wp2_with fail
    go_ret3
    exact ⟨⟨_, rfl, intsAt_nil⟩, HB0.out⟩
theorem abelian26_long (w : World) (v : Value) (R : List (List Int)) (n : Int) (h : Tab w v R) (hn : 1 ≤ n) (hn2 : n ≤ 16) (hl : 100 < R.length) : Calls Tryz.prog 5 #[.agg #[.int .i64 n, v]] w (GroupPost [] 0 4 w) := by
  obtain ⟨A, c, rfl, h1, h2, -⟩ := LAt.open_ h
  have hb0 : Below w.heap.size w (w.alloc (.cells #[.int .i64 n, .slice A R.length c] 24)) := (Below.refl _ _).alloc (Nat.le_refl _) _
  have HB0 := Lib.hid hb0
  have hd3 : (100 : Int) < (R.length : Int) := by omega
  clear h hb0 hl
  generalize R.length = L at *
  have hd1 : decide (n < 1) = false := decide_eq_false (by omega)
  have hd2 : decide ((16 : Int) < n) = false := decide_eq_false (by omega)
  go_enter Tryz.func5, Tryz.ntmps5
  go_wp2_with fail
  go_ret3
  exact ⟨⟨_, rfl, intsAt_nil⟩, HB0.out⟩
set_option maxRecDepth 100000 in
set_option maxHeartbeats 2000000 in
theorem abelian26_bad (w : World) (v : Value) (R : List (List Int)) (n : Nat) (h : Tab w v R) (hn : 1 ≤ n) (hn2 : n ≤ 16) (hR : R.length ≤ 100) (k0 : Nat) (hk0L : k0 < R.length) (hk : ∀ k, k < k0 → wordE n (R.getD k []) = 0) {er : Int} (hE1 : wordE n (R.getD k0 []) = er) (hE2 : er ≠ 0) :
    Calls Tryz.prog 5 #[.agg #[.int .i64 (n : Int), v]] w (GroupPost [] 0 er w) := by
  obtain ⟨A, c, rfl, h1, h2, h3⟩ := LAt.open_ h
  have HC := Lib.hid h3
  have HK : Hid (∀ k, k < k0 → WordOk n (R.getD k [])) := Lib.hid fun k hk' => wordOk_of (hk k hk')
  have HE := Lib.hid (And.intro hE1 hE2)
  obtain ⟨L, hL⟩ : ∃ L, L = R.length := ⟨_, rfl⟩
  rw [← hL] at hR h1 HC hk0L ⊢
  have HL := Lib.hid hL
  have hLi : (L : Int) ≤ 100 := by omega
  have hni : (1 : Int) ≤ (n : Int) := by omega
  have hni2 : (n : Int) ≤ 16 := by omega
  have hd1 : decide ((n : Int) < 1) = false := decide_eq_false (by omega)
  have hd2 : decide ((16 : Int) < (n : Int)) = false := decide_eq_false (by omega)
  have hd3 : decide ((100 : Int) < (L : Int)) = false := decide_eq_false (by omega)
  clear h h3 hk hE1 hE2 hL
  go_enter Tryz.func5, Tryz.ntmps5
  go_wp2_with fail
  have hbx : (w.alloc (.cells #[.int .i64 (n : Int), .slice A L c] 24)).cell? ⟨w.heap.size, 0, none⟩ = some (.int .i64 (n : Int)) := by rw [cell_of_row _ _ _ _ _ _ (heap_alloc_new w _)]; rfl
  have hb0 : Below w.heap.size w (w.alloc (.cells #[.int .i64 (n : Int), .slice A L c] 24)) := (Below.refl _ _).alloc (Nat.le_refl _) _
  have HBX := Lib.hid hbx
  have HB0 := Lib.hid hb0
  clear hbx hb0
  generalize hb : w.heap.size = b at *
  generalize w.alloc (.cells #[.int .i64 (n : Int), .slice A L c] 24) = w0 at *
  go_loopw [5, 25] (fun zv z wr => ∃ (k : Nat) (A' : Option Addr) (c' : Nat), k ≤ k0 ∧ z = .int .i64 k ∧ zv = .slice A' k c' ∧ Hid ((∃ bl cs, MatM w0.heap.size wr (.slice A' k c') bl cs ((R.take k).map (sumsE n))) ∧ Below w0.heap.size w0 wr)) (fun _ z _ => L - (intOf z).toNat)
  case atStart => exact ⟨0, none, 0, by omega, rfl, rfl, Lib.hid ⟨⟨_, _, MatM.nil _ _⟩, Below.refl _ _⟩⟩
  case round =>
    obtain ⟨k, A', c', hk, rfl, rfl, HQ⟩ := hrel
    have hk0 : (0 : Int) ≤ (k : Int) := Int.natCast_nonneg _
    have hbx := (HQ.out.2.cell (p := ⟨b, 0, none⟩) (World.block_lt_of_cell? w0 _ HBX.out)).trans HBX.out
    have hbw : Below b w wr := HB0.out.trans (HQ.out.2.mono (by rw [← hb]; rw [← hb] at HB0; exact HB0.out.size))
    have hkL : k < L := by omega
    have hkl' : (k : Int) < (L : Int) := by omega
    by_cases hkl : k < k0
    · obtain ⟨bo, oo, rfl, hcells⟩ := HC.out (by omega)
      obtain ⟨u, hu, hI⟩ := hcells k hkL
      obtain ⟨A1, c1, rfl, -, -, -⟩ := id hI.open_
      have hu' := (hbw.cell (p := ⟨bo, oo + k, none⟩) (by rw [← hb]; exact World.block_lt_of_cell? w _ hu)).trans hu
      have HS := Lib.hid (sums44_ok wr _ _ n (kept_ints w wr _ _ (fun p hp => hbw.block p (by rw [← hb]; exact hp)) hI) hn hn2 (HK.out k hkl))
      obtain ⟨⟨bl, cs, hM⟩, hB⟩ := HQ.out
      have hlt : (R.take k).length = k := by rw [List.length_take]; have := HL.out; omega
      have hts : (R.take (k + 1)).map (sumsE n) = (R.take k).map (sumsE n) ++ [sumsE n (R.getD k [])] := by rw [← take_getD R (by rw [← HL.out]; exact hkL), List.map_append]; rfl
      have HPUSH : Hid (∀ W g, Below wr.heap.size wr W → XsAt W g (sumsE n (R.getD k [])) → wr.heap.size ≤ g → ∃ A2 c2 w2, (Builtin.append_ #[40, 40] 40 #[.slice A' k c', .slice (some ⟨W.heap.size, 0, none⟩) 1 1]).run Tryz.prog (W.alloc (.cells #[.slice (some ⟨g, 0, none⟩) n n] 25)) = .ok (.slice A2 (k + 1) c2) w2 ∧ Hid ((∃ bl cs, MatM w0.heap.size w2 (.slice A2 (k + 1) c2) bl cs ((R.take (k + 1)).map (sumsE n))) ∧ Below w0.heap.size w0 w2)) := Lib.hid fun W g hW hX hg => by
        have hMk := hM.keep hW
        obtain ⟨A2, c2, w2, p1, ⟨bl2, cs2, p2⟩, p3⟩ := hMk.push (g := g) (c := n) (Nat.le_trans hB.size hW.size) hX (Nat.le_trans hB.size hg) (by rw [sumsE_length]; exact Nat.le_refl _) (by omega) (fun i hi e => by have := hM.lt.1 i hi; omega) (by rw [List.length_map, hlt]; omega)
        rw [List.length_map, hlt, sumsE_length] at p1
        rw [List.length_map, hlt, ← hts] at p2
        exact ⟨A2, c2, w2, p1, Lib.hid ⟨⟨bl2, cs2, p2⟩, (hB.trans (hW.mono hB.size)).grown p3 (Nat.le_trans hB.size hW.size) fun r hr => (owns_block hMk.out r hr).1⟩⟩
      clear hcells hu hI hM hB hlt hts hbw
      generalize hrk : (R.getD k []).length = rl at *
      go_wp2_with (first
        | (go_at_call 18; (refine HS.out.mono ?_); rintro e w5 ⟨g, rfl, hX, hg, hb5⟩; obtain ⟨A2, c2, w6, p1, HN⟩ := HPUSH.out w5 g hb5 hX hg; have HP1 := Lib.hid p1; clear p1 hX hg hb5)
        | ((with_reducible refine wpList_sel 42 ?_); refine wpList_val rfl (r_app (.tmp 39) (.tmp 41) 40 rfl rfl rfl HP1.out) ?_))
      go_roundw
      case rel => exact ⟨k + 1, A2, c2, by omega, by go_num, rfl, HN⟩
      case measure => simp [intOf]; omega
    · obtain rfl : k = k0 := by omega
      obtain ⟨bo, oo, rfl, hcells⟩ := HC.out (by omega)
      obtain ⟨u, hu, hI⟩ := hcells k hkL
      obtain ⟨A1, c1, rfl, -, -, -⟩ := id hI.open_
      have hu' := (hbw.cell (p := ⟨bo, oo + k, none⟩) (by rw [← hb]; exact World.block_lt_of_cell? w _ hu)).trans hu
      have hs := sums44_bad wr _ _ n (kept_ints w wr _ _ (fun p hp => hbw.block p (by rw [← hb]; exact hp)) hI) hn hn2 (by rw [HE.out.1]; exact HE.out.2)
      rw [HE.out.1] at hs
      have HS := Lib.hid hs
      have hde : (er != 0) = true := by simpa using HE.out.2
      have HBW := Lib.hid hbw
      clear hcells hu hI hbw hs
      generalize (R.getD k []).length = rl at *
      go_wp2_with (go_at_call 18; (refine HS.out.mono ?_); rintro e w5 ⟨rfl, q, rfl⟩)
      go_ret3
      refine ⟨⟨_, rfl, intsAt_nil⟩, ?_⟩
      rw [hb]
      exact below_drewN HBW.out _
end Go.Proofs
namespace Go.Proofs
open Go.RowKit Go.Shelf Go.Proofs.Sm
theorem wordE_long {n : Nat} {xs : List Int} (h : 4000 < xs.length) : wordE n xs = 4 := by unfold wordE; rw [if_pos h]
theorem wordE_bad {n k : Nat} {xs : List Int} (h : ¬ 4000 < xs.length) (hk : k < xs.length) (hb : badW n (xs.getD k 0) = true) : wordE n xs = 2 := by
  unfold wordE
  rw [if_neg h, if_pos]
  exact List.any_eq_true.2 ⟨_, by rw [List.getD_eq_getElem?_getD, List.getElem?_eq_getElem hk]; exact List.getElem_mem hk, hb⟩
theorem wordE_good {n : Nat} {xs : List Int} (h : ¬ 4000 < xs.length) (hb : ∀ j, j < xs.length → badW n (xs.getD j 0) = false) : wordE n xs = 0 := by
  unfold wordE
  rw [if_neg h, if_neg]
  rw [Bool.not_eq_true, List.any_eq_false]
  intro x hx
  obtain ⟨j, hj, rfl⟩ := List.getElem_of_mem hx
  have := hb j hj
  rw [List.getD_eq_getElem?_getD, List.getElem?_eq_getElem hj, Option.getD_some] at this
  rw [this]
  decide
set_option maxRecDepth 100000 in
set_option maxHeartbeats 1000000 in
theorem check44_any (w : World) (v : Value) (xs : List Int) (n : Nat) (h : IntsAt w v xs) (hn : 1 ≤ n) (hn2 : n ≤ 16) : Calls Tryz.prog 44 #[v, .int .i64 (n : Int)] w fun e w' => e = .returned (.int .i64 (wordE n xs)) ∧ ∃ q, w' = w.drewN q := by
  obtain ⟨A, c, rfl, h1, h2, h3⟩ := h.open_
  have HC := Lib.hid h3
  have hni : (1 : Int) ≤ (n : Int) := by omega
  have hni2 : (n : Int) ≤ 16 := by omega
  obtain ⟨R, hR⟩ : ∃ R, R = wordE n xs := ⟨_, rfl⟩
  rw [← hR]
  by_cases hl : 4000 < xs.length
  · have HE : Hid (R = 4) := Lib.hid (hR.trans (wordE_long hl))
    have hli : (4000 : Int) < (xs.length : Int) := by omega
    clear h h3 hR
    generalize xs.length = L at *
    go_enter Tryz.func44, Tryz.ntmps44
    go_wp2_with fail
    go_ret
    exact ⟨ret_int HE.out.symm, 0, rfl⟩
  · have hli : (xs.length : Int) ≤ 4000 := by omega
    have HB : Hid (∀ k, k < xs.length → badW n (xs.getD k 0) = true → (2 : Int) = R) := Lib.hid fun k hk hb => by rw [hR, wordE_bad hl hk hb]
    have HG : Hid ((∀ j, j < xs.length → badW n (xs.getD j 0) = false) → (0 : Int) = R) := Lib.hid fun hb => by rw [hR, wordE_good hl hb]
    clear h h3 hR
    obtain ⟨L, hL⟩ : ∃ L, L = xs.length := ⟨_, rfl⟩
    rw [← hL] at HB HG h1 HC hl hli ⊢
    clear hL
    go_enter Tryz.func44, Tryz.ntmps44
    go_wp2_with fail
    go_loopw [5] (fun z wr => ∃ k : Nat, k ≤ L ∧ z = .int .i64 k ∧ Hid (∀ j, j < k → badW n (xs.getD j 0) = false) ∧ ∃ q, wr = w.drewN q) (fun z _ => L - (intOf z).toNat)
    case atStart => exact ⟨0, by omega, rfl, Lib.hid fun j hj => absurd hj (by omega), 0, rfl⟩
    case round =>
      obtain ⟨k, hk, rfl, HZ, q, rfl⟩ := hrel
      have hk0 : (0 : Int) ≤ (k : Int) := Int.natCast_nonneg _
      by_cases hkl : k < L
      · have hkl' : (k : Int) < (L : Int) := by omega
        obtain ⟨b, o, rfl, hcc⟩ := HC.out (by omega)
        have hx := hcc k hkl
        have HS := Lib.hid fun hb => all_succ (p := fun j => badW n (xs.getD j 0) = false) HZ.out hb
        have HBK := Lib.hid (HB.out k hkl)
        clear hcc
        generalize xs.getD k 0 = z at *
        by_cases f1 : z = 0
        · have g1 : (z == 0) = true := by simpa using f1
          have HE := Lib.hid (HBK.out (by unfold badW; rw [decide_eq_true f1]; rfl))
          clear f1
          go_wp2_with fail
          go_ret
          exact ⟨ret_int HE.out, (by first | exact ⟨_, rfl⟩ | exact ex_drewN)⟩
        · have g1 : (z == 0) = false := by simpa using f1
          by_cases f3 : z < -(n : Int)
          · have g3 : decide (z < -(n : Int)) = true := decide_eq_true f3
            have HE := Lib.hid (HBK.out (by unfold badW; rw [g3, Bool.or_true]))
            clear f1 f3
            go_wp2_with fail
            go_ret
            exact ⟨ret_int HE.out, (by first | exact ⟨_, rfl⟩ | exact ex_drewN)⟩
          · have g3 : decide (z < -(n : Int)) = false := decide_eq_false f3
            by_cases f2 : (n : Int) < z
            · have g2 : decide ((n : Int) < z) = true := decide_eq_true f2
              have HE := Lib.hid (HBK.out (by unfold badW; rw [g2, Bool.or_true, Bool.true_or]))
              clear f1 f2 f3
              go_wp2_with fail
              go_ret
              exact ⟨ret_int HE.out, (by first | exact ⟨_, rfl⟩ | exact ex_drewN)⟩
            · have g2 : decide ((n : Int) < z) = false := decide_eq_false f2
              have HN : Hid (badW n z = false) := Lib.hid (by unfold badW; rw [decide_eq_false f1, g2, g3]; rfl)
              clear f1 f2 f3
              go_wp2_with fail
              go_roundw
              case rel => exact ⟨k + 1, by omega, by go_num, Lib.hid (HS.out HN.out), (by first | exact ⟨_, rfl⟩ | exact ex_drewN)⟩
              case measure => simp [intOf]; omega
      · obtain rfl : k = L := by omega
        have HE := Lib.hid (HG.out HZ.out)
        go_wp2_with fail
        go_ret
        exact ⟨ret_int HE.out, (by first | exact ⟨_, rfl⟩ | exact ex_drewN)⟩
theorem sums19_bad (w : World) (v : Value) (xs : List Int) (n : Nat) (h : IntsAt w v xs) (hn : 1 ≤ n) (hn2 : n ≤ 16) (hk : wordE n xs ≠ 0) : Calls Tryz.prog 19 #[v, .int .i64 (n : Int)] w fun e w' => e = .returned (.tuple #[.slice none 0 0, .int .i64 (wordE n xs)]) ∧ ∃ q, w' = w.drewN q := by
  have HC := Lib.hid (check44_any w v xs n h hn hn2)
  obtain ⟨A, c, rfl, -, -, -⟩ := h.open_
  have hd : (wordE n xs != 0) = true := by simpa using hk
  clear h hk
  generalize wordE n xs = R at *
  go_enter Tryz.func19, Tryz.ntmps19
  go_wp2_with (go_at_call 44; (refine HC.out.mono ?_); rintro e w' ⟨rfl, q, rfl⟩)
  go_ret2
  exact ⟨rfl, _, rfl⟩
theorem wordE_ok {n : Nat} {xs : List Int} (h : WordOk n xs) : wordE n xs = 0 := wordE_good (by have := h.1; omega) fun j hj => by
  have h2 := h.2 _ (show xs.getD j 0 ∈ xs by rw [List.getD_eq_getElem?_getD, List.getElem?_eq_getElem hj]; exact List.getElem_mem hj)
  unfold badW
  rw [decide_eq_false h2.1, decide_eq_false (by omega), decide_eq_false (by omega)]
  rfl
set_option maxRecDepth 100000 in
set_option maxHeartbeats 2000000 in
theorem sums19_ok (w : World) (v : Value) (xs : List Int) (n : Nat) (h : IntsAt w v xs) (hn : 1 ≤ n) (hn2 : n ≤ 16) (hk : WordOk n xs) : Calls Tryz.prog 19 #[v, .int .i64 (n : Int)] w (SumsPost n xs w) := by
  have hck := check44_any w v xs n h hn hn2
  rw [wordE_ok hk] at hck
  have HCK := Lib.hid hck
  obtain ⟨A, c, rfl, h1, h2, h3⟩ := h.open_
  have HC := Lib.hid h3
  have HK : Hid (∀ k, k < xs.length → xs.getD k 0 ≠ 0 ∧ -(n : Int) ≤ xs.getD k 0 ∧ xs.getD k 0 ≤ n) := Lib.hid fun k hk' => hk.2 _ (by rw [List.getD_eq_getElem?_getD, List.getElem?_eq_getElem hk']; exact List.getElem_mem hk')
  have hl := hk.1
  have hli : (xs.length : Int) ≤ 4000 := by omega
  have hni : (1 : Int) ≤ (n : Int) := by omega
  have hni2 : (n : Int) ≤ 16 := by omega
  obtain ⟨L, hL⟩ : ∃ L, L = xs.length := ⟨_, rfl⟩
  rw [← hL] at hl hli h1 HCK HC HK ⊢
  have HL := Lib.hid hL
  clear h h3 hk hL hck
  go_enter Tryz.func19, Tryz.ntmps19
  have HMK : Hid (∀ q, ∃ w1, (Instr.makeSlice 25 (.int .i64 (n : Int)) (.int .i64 (n : Int))).run Tryz.prog (w.drewN q) = .ok (.slice (some ⟨w.heap.size, 0, none⟩) n n) w1 ∧ Hid (XsAt w1 w.heap.size (sumsE n (xs.take 0)) ∧ Below w.heap.size w w1)) := Lib.hid fun q => by
    obtain ⟨w1, hm1, hx1, hb1, -⟩ := make25_any (w.drewN q) n (by omega)
    exact ⟨w1, hm1, Lib.hid ⟨by rw [List.take_zero, sumsE_nil]; exact hx1, (below_drewN (Below.refl _ _) q).trans hb1⟩⟩
  go_wp2_with (first
    | (go_at_call 44; (refine HCK.out.mono ?_); rintro e w1 ⟨rfl, q1, rfl⟩; obtain ⟨w2, hm2, HX2⟩ := HMK.out q1; have HM2 := Lib.hid hm2; clear hm2)
    | ((with_reducible refine wpList_sel 16 ?_); refine wpList_val rfl (r_make 25 (.tmp 15) (.tmp 15) rfl rfl rfl HM2.out) ?_))
  generalize hg : w.heap.size = g at *
  go_loopw [8] (fun z wr => ∃ k : Nat, k ≤ L ∧ z = .int .i64 k ∧ Hid (XsAt wr g (sumsE n (xs.take k)) ∧ Below g w wr)) (fun z _ => L - (intOf z).toNat)
  case atStart => exact ⟨0, by omega, rfl, HX2⟩
  case round =>
    obtain ⟨k, hk, rfl, HQ⟩ := hrel
    have hk0 : (0 : Int) ≤ (k : Int) := Int.natCast_nonneg _
    by_cases hkl : k < L
    · have hkl' : (k : Int) < (L : Int) := by omega
      obtain ⟨b, o, rfl, hcc⟩ := HC.out (by omega)
      have hx := hcc k hkl
      obtain ⟨e1, e2, e3⟩ := HK.out k hkl
      have hx' := (HQ.out.2.cell (p := ⟨b, o + k, none⟩) (by rw [← hg]; exact World.block_lt_of_cell? w _ hx)).trans hx
      have hsn := sumsE_snoc (n := n) (xs.take k) (c := xs.getD k 0) e1 (by omega)
      rw [← take_snoc xs (by rw [← HL.out]; exact hkl)] at hsn
      have hbd := sumAt_bd (xs.take k) ((xs.getD k 0).natAbs - 1)
      have hlt : (xs.take k).length ≤ 4000 := by rw [List.length_take]; omega
      obtain ⟨a, ha⟩ : ∃ a, a = (xs.getD k 0).natAbs - 1 := ⟨_, rfl⟩
      have haz : (xs.getD k 0).natAbs = a + 1 := by omega
      rw [← ha] at hsn hbd
      have han : a < n := by omega
      have hcell := HQ.out.1.cell (k := a) (by rw [sumsE_length]; exact han)
      rw [sumsE_getD _ han] at hcell
      have hfz := HQ.out.1.frozen a
      have hset := HQ.out.1.set (k := a) (by rw [sumsE_length]; exact han) (sumAt (xs.take k) a + sgnI (xs.getD k 0))
      rw [← hsn] at hset
      have HSET := Lib.hid (And.intro hset (HQ.out.2.setCell (p := ⟨g, a, none⟩) (Nat.le_refl _) (.int .i64 (sumAt (xs.take k) a + sgnI (xs.getD k 0)))))
      have ha0 : (0 : Int) ≤ (a : Int) := Int.natCast_nonneg _
      have hai : (a : Int) < (n : Int) := by omega
      have HSG : Hid (sgnI (xs.getD k 0) = if 0 < xs.getD k 0 then 1 else -1) := Lib.hid (by unfold sgnI; split <;> split <;> omega)
      have HAZ := Lib.hid haz
      have HE1 := Lib.hid e1
      clear hset hsn hx hcc haz ha e1 HK
      rw [HSG.out] at HSET
      generalize sumAt (xs.take k) a = sm at *
      generalize xs.getD k 0 = z at *
      have hz1 : -16 ≤ z := by omega
      have hz2 : z ≤ 16 := by omega
      by_cases hz : 0 < z
      · rw [if_pos hz] at HSET
        have hsub : z - 1 = (a : Int) := by have := HAZ.out; omega
        have hws2 : wrap64 (sm + 1) = sm + 1 := by rw [wr_wrap64, wr_in (by omega)]
        have hws : IntKind.i64.wrap (sm + 1) = sm + 1 := IntWalk.i64_in _ (by omega)
        clear hbd hlt e2 e3
        go_wp2_with fail
        go_roundw
        case rel => exact ⟨k + 1, by omega, by go_num, Lib.hid (by first | exact HSET.out | exact ⟨HSET.out.1.keep rfl, below_drewN HSET.out.2 1⟩)⟩
        case measure => simp [intOf]; omega
      · rw [if_neg hz] at HSET
        have hneg : -z = (a : Int) + 1 := by have := HAZ.out; have := HE1.out; omega
        have hwn : IntKind.i64.wrap (-z) = (a : Int) + 1 := by rw [hneg]; exact IntWalk.i64_in _ (by omega)
        have hneg2 : -z - 1 = (a : Int) := by omega
        have hsm : sm + -1 = sm - 1 := by omega
        rw [hsm] at HSET
        have hws2 : wrap64 (sm - 1) = sm - 1 := by rw [wr_wrap64, wr_in (by omega)]
        have hws : IntKind.i64.wrap (sm - 1) = sm - 1 := IntWalk.i64_in _ (by omega)
        clear hbd hlt e2 e3 hsm
        go_wp2_with fail
        go_roundw
        case rel => exact ⟨k + 1, by omega, by go_num, Lib.hid (by first | exact HSET.out | exact ⟨HSET.out.1.keep rfl, below_drewN HSET.out.2 1⟩)⟩
        case measure => simp [intOf]; omega
    · obtain rfl : k = L := by omega
      have HE : Hid (XsAt wr g (sumsE n xs) ∧ Below g w wr) := Lib.hid (by have := HQ.out; rw [HL.out, List.take_length] at this; exact this)
      go_wp2_with fail
      go_ret2
      exact ⟨g, rfl, HE.out.1, by rw [hg]; exact Nat.le_refl _, by rw [hg]; exact HE.out.2⟩
end Go.Proofs
namespace Go.Proofs
open Go.RowKit Go.Shelf Go.Proofs.Sm
/-- block p is a row that the box b names -/
def Named (b : Nat) (w : World) (p : Nat) : Prop := ∃ (k g n c i m c' : Nat), k < 3 ∧ w.cell? ⟨b, k, none⟩ = some (.slice (some ⟨g, 0, none⟩) n c) ∧ i < n ∧ w.cell? ⟨g, i, none⟩ = some (.slice (some ⟨p, 0, none⟩) m c')
section
variable {T b base : Nat} {w w' : World} {s : S} {x : Value} {vs : Nat → Value} {bl cs : Nat → Nat → Nat}
theorem WkM.cellk (h : WkM T b base w s x vs bl cs) {k : Nat} (hk : k < 3) : w.cell? ⟨b, k, none⟩ = some (vs k) := by
  obtain ⟨c0, c1, c2, -, -⟩ := h.cells
  obtain rfl | rfl | rfl : k = 0 ∨ k = 1 ∨ k = 2 := by omega
  · exact c0
  · exact c1
  · exact c2
theorem WkM.named (h : WkM T b base w s x vs bl cs) {p : Nat} : Named b w p ↔ ∃ k i, k < 3 ∧ i < (s.mat k).length ∧ p = bl k i := by
  constructor
  · rintro ⟨k, g, n, c, i, m, c', hk, h1, hi, h2⟩
    rw [h.cellk hk] at h1
    injection h1 with h1
    obtain ⟨A, d, hv, -, -⟩ := h.form hk
    rw [hv] at h1
    injection h1 with e1 e2 e3
    subst e1 e2 e3
    obtain ⟨g', d', hv', hc, -, -⟩ := h.row_at hk hi
    rw [hv] at hv'
    injection hv' with e1 e2 e3
    injection e1 with e1
    injection e1 with e1
    subst e1
    rw [hc] at h2
    injection h2 with h2
    injection h2 with e1 e2 e3
    injection e1 with e1
    injection e1 with e1
    exact ⟨k, i, hk, hi, e1.symm⟩
  · rintro ⟨k, i, hk, hi, rfl⟩
    obtain ⟨g, d, hv, hc, -, -⟩ := h.row_at hk hi
    exact ⟨k, g, _, d, i, _, _, hk, by rw [h.cellk hk, hv], hi, hc⟩
theorem Named.of (hM : WkM T b base w s x vs bl cs) (hbx : ∀ k, k < 3 → w'.cell? ⟨b, k, none⟩ = w.cell? ⟨b, k, none⟩) (h25 : ∀ (q : Nat) (C : Array Value), w.heap[q]? = some (.cells C 25 (0, 0)) → w'.heap[q]? = w.heap[q]?) {p : Nat} (h : Named b w' p) : Named b w p := by
  obtain ⟨k, g, n, c, i, m, c', hk, h1, hi, h2⟩ := h
  rw [hbx k hk] at h1
  refine ⟨k, g, n, c, i, m, c', hk, h1, hi, ?_⟩
  rw [hM.cellk hk] at h1
  injection h1 with h1
  obtain ⟨-, C, hC⟩ := owns_block (hM.out k hk) g (by rw [h1]; rfl)
  have hC' := (h25 g C hC).trans hC
  rw [cell_of_row _ _ _ _ _ _ hC'] at h2
  rw [cell_of_row _ _ _ _ _ _ hC]
  exact h2
end
structure Chb (b base : Nat) (w w' : World) : Prop where
  below : Below base w w'
  rows : ∀ (p : Nat) (C : Array Value), w.heap[p]? = some (.cells C 3 (0, 0)) → ¬ Named b w p → w'.heap[p]? = w.heap[p]? ∧ ¬ Named b w' p
section
variable {T b base : Nat} {w w' w'' : World} {s s' : S} {x x' : Value} {vs vs' : Nat → Value} {bl cs bl' cs' : Nat → Nat → Nat}
theorem Chb.refl (b base : Nat) (w : World) : Chb b base w w := ⟨Below.refl _ _, fun _ _ _ h => ⟨rfl, h⟩⟩
theorem Chb.trans (h : Chb b base w w') (h' : Chb b base w' w'') : Chb b base w w'' := ⟨h.below.trans h'.below, fun p C hp hn => by
  obtain ⟨h1, h2⟩ := h.rows p C hp hn
  obtain ⟨h3, h4⟩ := h'.rows p C (h1.trans hp) h2
  exact ⟨h3.trans h1, h4⟩⟩
theorem Chb.drew (h : Chb b base w w') : Chb b base w w'.drew := ⟨⟨h.below.os, h.below.tape, h.below.output, h.below.size, h.below.block⟩, h.rows⟩
theorem Chb.drewN (h : Chb b base w w') (n : Nat) : Chb b base w (w'.drewN n) := ⟨⟨h.below.os, h.below.tape, h.below.output, h.below.size, h.below.block⟩, h.rows⟩
theorem Chb.size (h : Chb b base w w') : w.heap.size ≤ w'.heap.size := h.below.size
theorem Chb.mono {c : Nat} (h : Chb b base w w') (hc : c ≤ base) : Chb b c w w' := ⟨h.below.mono hc, h.rows⟩
theorem Chb.of_below (hW : Wk T b base w s x) (hb : base ≤ w.heap.size) (h : Below w.heap.size w w') : Chb b base w w' := by
  obtain ⟨vs, bl, cs, hM⟩ := hW
  refine ⟨h.mono hb, fun p C hp hn => ⟨h.block p (Array.getElem?_eq_some_iff.1 hp).1, fun h1 => hn ?_⟩⟩
  rw [(hM.below h).named] at h1
  exact hM.named.2 h1
/-- a row of the state is turned -/
theorem Chb.setRow (h : Chb b base w w') (hM : WkM T b base w' s x vs bl cs) {k i : Nat} (hk : k < 3) (hi : i < (s.mat k).length) (j : Nat) (v : Value) : Chb b base w (w'.setCell ⟨bl k i, j, none⟩ v) := by
  obtain ⟨D, hD⟩ := hM.row_ty hk hi
  have hne : ∀ q, q ≠ bl k i → (w'.setCell ⟨bl k i, j, none⟩ v).heap[q]? = w'.heap[q]? := fun q hq => Below.heap_setCell w' ⟨bl k i, j, none⟩ v q hq
  have hbne : b ≠ bl k i := fun e => by
    rw [← e, hM.box] at hD
    injection hD with h5
    injection h5 with _ h6 _
    exact hM.ty.1 h6
  refine ⟨h.below.setCell (p := ⟨bl k i, j, none⟩) (hM.row k i hk hi).1 v, fun p C hp hn => ?_⟩
  obtain ⟨h1, h2⟩ := h.rows p C hp hn
  have hpne : p ≠ bl k i := fun e => h2 (hM.named.2 ⟨k, i, hk, hi, e⟩)
  refine ⟨(hne p hpne).trans h1, fun h3 => h2 (Named.of hM (fun k' hk' => ?_) (fun q C' hq => hne q fun e => ?_) h3)⟩
  · have hbx := hM.box
    rw [cell_of_row _ _ _ _ _ _ ((hne b hbne).trans hbx), cell_of_row _ _ _ _ _ _ hbx]
  · rw [e, hD] at hq
    injection hq with h5
    injection h5 with _ h6 _
    exact absurd h6 (by decide)
/-- the state is another one, of the same rows; of the other rows none is turned -/
theorem Chb.via (h : Chb b base w w') (hM : WkM T b base w' s x vs bl cs) (hM' : WkM T b base w'' s' x' vs' bl' cs') (hsub : ∀ k i, k < 3 → i < (s'.mat k).length → ∃ k' i', k' < 3 ∧ i' < (s.mat k').length ∧ bl' k i = bl k' i') (hB : Below base w' w'')
    (hk : ∀ (p : Nat) (C : Array Value), w'.heap[p]? = some (.cells C 3 (0, 0)) → (∀ k i, k < 3 → i < (s.mat k).length → p ≠ bl k i) → w''.heap[p]? = w'.heap[p]?) : Chb b base w w'' := by
  refine ⟨h.below.trans hB, fun p C hp hn => ?_⟩
  obtain ⟨h1, h2⟩ := h.rows p C hp hn
  refine ⟨(hk p C (h1.trans hp) fun k i hk3 hi e => h2 (hM.named.2 ⟨k, i, hk3, hi, e⟩)).trans h1, fun h3 => h2 ?_⟩
  obtain ⟨k, i, hk3, hi, e⟩ := hM'.named.1 h3
  obtain ⟨k', i', a1, a2, a3⟩ := hsub k i hk3 hi
  exact hM.named.2 ⟨k', i', a1, a2, e.trans a3⟩
theorem Chb.set3 (h : Chb b base w w') (hM : WkM T b base w' s x vs bl cs) (v : Value) : Chb b base w (w'.setCell ⟨b, 3, none⟩ v) :=
  h.via hM (hM.set3 v) (fun k i hk hi => ⟨k, i, hk, hi, rfl⟩) ((Below.refl base w').setCell (p := ⟨b, 3, none⟩) hM.bb v) fun p C hp _ => Below.heap_setCell w' ⟨b, 3, none⟩ v p fun e => by
    have e2 : p = b := e
    rw [e2, hM.box] at hp
    injection hp with h5
    injection h5 with _ h6 _
    exact hM.ty.1 h6
/-- two rows change places -/
theorem Chb.swap (h : Chb b base w w') (hM : WkM T b base w' s x vs bl cs) {k i j g : Nat} (hk : k < 3) (hi : i < (s.mat k).length) (hj : j < (s.mat k).length) (hg : (vs k).ownBlock = some g) :
    Chb b base w ((w'.setCell ⟨g, i, none⟩ (.slice (some ⟨bl k j, 0, none⟩) ((s.mat k).getD j []).length (cs k j))).setCell ⟨g, j, none⟩ (.slice (some ⟨bl k i, 0, none⟩) ((s.mat k).getD i []).length (cs k i))) := by
  obtain ⟨hbg, D, hD⟩ := owns_block (hM.out k hk) g hg
  refine h.via hM (hM.swap hk hi hj hg) (fun k' i' hk' hi' => ?_) (((Below.refl base w').setCell (p := ⟨g, i, none⟩) hbg _).setCell (p := ⟨g, j, none⟩) hbg _) fun p C hp _ => ?_
  · have hlen : (swR (s.mat k) i j).length = (s.mat k).length := by simp [swR]
    by_cases e : k' = k
    · subst e
      rw [mat_setMat s _ hk' hk', if_pos rfl, hlen] at hi'
      refine ⟨k', sw i j i', hk', ?_, by simp⟩
      unfold sw
      split
      · exact hj
      · split
        · exact hi
        · exact hi'
    · rw [mat_setMat s _ hk hk', if_neg (fun h => e h.symm)] at hi'
      exact ⟨k', i', hk', hi', by simp [e]⟩
  · have hne : p ≠ g := fun e => by
      rw [e, hD] at hp
      injection hp with h5
      injection h5 with _ h6 _
      exact absurd h6 (by decide)
    exact (Below.heap_setCell _ ⟨g, j, none⟩ _ p hne).trans (Below.heap_setCell w' ⟨g, i, none⟩ _ p hne)
end
end Go.Proofs
namespace Go.Proofs
open Go.RowKit Go.Shelf Go.Proofs.Sm
section
variable {r n m : Nat} {o : Option S} {σ : S}
theorem hd_choose_none (h : Base r n σ) (hrun : run r n m .choose σ = some o) (htr : σ.t ≠ r) (htn : σ.t ≠ n) (hl : least σ.a σ.t r n = none) : o = some σ := by
  obtain ⟨m', -, hL⟩ := left_yes (p := .choose) (p' := none) (s' := σ) h hrun (by rw [next_choose, if_neg (fun e => e.elim htr htn), hl])
  exact hL
theorem hd_choose_end (h : Base r n σ) (hrun : run r n m .choose σ = some o) (ht : σ.t = r ∨ σ.t = n) : o = some σ := by
  obtain ⟨m', -, hL⟩ := left_yes (p := .choose) (p' := none) (s' := σ) h hrun (by rw [next_choose, if_pos ht])
  exact hL
theorem hd_choose_some (h : Base r n σ) (hrun : run r n m .choose σ = some o) (htr : σ.t ≠ r) (htn : σ.t ≠ n) {x y : Nat} (hl : least σ.a σ.t r n = some (x, y)) : ∃ m', m' < m ∧ Piv r n ((σ.swR σ.t x).swC σ.t y) ∧ run r n m' .down ((σ.swR σ.t x).swC σ.t y) = some o := by
  obtain ⟨m', hm, hL⟩ := left_yes (p := .choose) (p' := some .down) (s' := (σ.swR σ.t x).swC σ.t y) h hrun (by rw [next_choose, if_neg (fun e => e.elim htr htn), hl])
  exact ⟨m', hm, hL.1, hL.2⟩
theorem hd_down_no (hrun : run r n m .down σ = some o) (hf : (σ.down r).fine = false) : o = none := left_no hrun (by rw [next_down, hf]; rfl)
theorem hd_down_yes (h : Piv r n σ) (hrun : run r n m .down σ = some o) (hf : (σ.down r).fine = true) : ∃ m', m' < m ∧ Acr r n (σ.down r) ∧ run r n m' .across (σ.down r) = some o := by
  obtain ⟨m', hm, hL⟩ := left_yes (p := .down) (p' := some .across) (s' := σ.down r) h hrun (by rw [next_down, hf]; rfl)
  exact ⟨m', hm, hL.1, hL.2⟩
theorem hd_across_no (hrun : run r n m .across σ = some o) (hf : (σ.across n).fine = false) : o = none := left_no hrun (by rw [next_across, hf]; rfl)
theorem hd_across_rest (h : Acr r n σ) (hrun : run r n m .across σ = some o) (hf : (σ.across n).fine = true) (hr : ((σ.across n).restR r || (σ.across n).restC n) = true) : ∃ m', m' < m ∧ Base r n (σ.across n) ∧ run r n m' .choose (σ.across n) = some o := by
  obtain ⟨m', hm, hL⟩ := left_yes (p := .across) (p' := some .choose) (s' := σ.across n) h hrun (by rw [next_across, hf, hr]; rfl)
  exact ⟨m', hm, hL.1, hL.2⟩
theorem hd_across_spread (h : Acr r n σ) (hrun : run r n m .across σ = some o) (hf : (σ.across n).fine = true) (hr : ((σ.across n).restR r || (σ.across n).restC n) = false) : ∃ m', m' < m ∧ Spr r n (σ.across n) ∧ run r n m' .spread (σ.across n) = some o := by
  obtain ⟨m', hm, hL⟩ := left_yes (p := .across) (p' := some .spread) (s' := σ.across n) h hrun (by rw [next_across, hf, hr]; rfl)
  exact ⟨m', hm, hL.1, hL.2⟩
theorem hd_spread_none (h : Spr r n σ) (hrun : run r n m .spread σ = some o) (hs : σ.spreadAt r n = none) : ∃ m', m' < m ∧ Sgn r n σ ∧ run r n m' .sign σ = some o := by
  obtain ⟨m', hm, hL⟩ := left_yes (p := .spread) (p' := some .sign) (s' := σ) h hrun (by rw [next_spread, hs])
  exact ⟨m', hm, hL.1, hL.2⟩
theorem hd_spread_no (hrun : run r n m .spread σ = some o) {i : Nat} (hs : σ.spreadAt r n = some i) (hf : (σ.addR σ.t i 1).fine = false) : o = none := left_no hrun (by rw [next_spread, hs]; simp [hf])
theorem hd_spread_yes (h : Spr r n σ) (hrun : run r n m .spread σ = some o) {i : Nat} (hs : σ.spreadAt r n = some i) (hf : (σ.addR σ.t i 1).fine = true) : ∃ m', m' < m ∧ Acr r n (σ.addR σ.t i 1) ∧ run r n m' .across (σ.addR σ.t i 1) = some o := by
  obtain ⟨m', hm, hL⟩ := left_yes (p := .spread) (p' := some .across) (s' := σ.addR σ.t i 1) h hrun (by rw [next_spread, hs]; simp [hf])
  exact ⟨m', hm, hL.1, hL.2⟩
theorem hd_sign (h : Sgn r n σ) (hrun : run r n m .sign σ = some o) : ∃ m', m' < m ∧ Base r n { σ.sign with t := σ.t + 1 } ∧ run r n m' .choose { σ.sign with t := σ.t + 1 } = some o := by
  obtain ⟨m', hm, hL⟩ := left_yes (p := .sign) (p' := some .choose) (s' := { σ.sign with t := σ.t + 1 }) h hrun next_sign
  exact ⟨m', hm, hL.1, hL.2⟩
end
/-- the head of the reference's loop: down says which phase comes next; over ends it -/
def HeadR (b base r n t : Nat) (w : World) (o : Option S) (m : Nat) (z : Value) (wr : World) : Prop :=
  (∃ σ, z = .bool true ∧ σ.t = t ∧ Base r n σ ∧ run r n m .choose σ = some o ∧ Wk 86 b base wr σ (.bool false) ∧ Chb b base w wr) ∨
  (∃ σ, z = .bool false ∧ σ.t = t ∧ Acr r n σ ∧ run r n m .across σ = some o ∧ Wk 86 b base wr σ (.bool false) ∧ Chb b base w wr) ∨
  (∃ σ d, z = .bool d ∧ (o = none ∧ Shape r n σ) ∧ Wk 86 b base wr σ (.bool true) ∧ Chb b base w wr)
/-- what a step for one place comes to -/
def StepR (b base r n t : Nat) (w : World) (o : Option S) (e : Ending) (w' : World) : Prop :=
  (∃ σ, e = .returned (.bool false) ∧ o = some σ ∧ σ.t = t ∧ Wk 86 b base w' σ (.bool false) ∧ Chb b base w w') ∨
  (∃ σ, e = .returned (.bool true) ∧ (o = none ∧ Shape r n σ) ∧ Wk 86 b base w' σ (.bool true) ∧ Chb b base w w') ∨
  (∃ σ m, e = .returned (.bool true) ∧ σ.t = t + 1 ∧ Base r n σ ∧ run r n m .choose σ = some o ∧ Wk 86 b base w' σ (.bool false) ∧ Chb b base w w')
end Go.Proofs
namespace Go.Proofs.Sm
variable {r n : Nat} {s s' : S}
def Dk (s s' : S) : Prop := s.t ≤ s'.t ∧ ∀ i, i < s.t → ent s'.a i i = ent s.a i i
theorem dk_down (hs : Shape r n s) (ht : s.t < r) : Dk s (s.down r) := by
  have := upto_inv (fun k s' => k ≤ r → Shape r n s' ∧ s'.t = s.t ∧ ∀ i, i < s.t → ent s'.a i i = ent s.a i i) S.dn (s := s) (lo := s.t + 1) (fun _ => ⟨hs, rfl, fun _ _ => rfl⟩)
    (fun k s' hk ih hk' => by
      obtain ⟨h1, h2, h3⟩ := ih (by omega)
      refine ⟨h1.addR (by omega) _, h2, fun i hi => ?_⟩
      refine Eq.trans ?_ (h3 i hi)
      exact (ent_addR h1.ra (by omega) (by omega) _ i i).trans (if_neg (by omega))) r ht (Nat.le_refl _)
  exact ⟨Nat.le_of_eq this.2.1.symm, this.2.2⟩
theorem dk_across (hs : Shape r n s) (ht : s.t < n) : Dk s (s.across n) := by
  have := upto_inv (fun k s' => k ≤ n → Shape r n s' ∧ s'.t = s.t ∧ ∀ i, i < s.t → ent s'.a i i = ent s.a i i) S.ac (s := s) (lo := s.t + 1) (fun _ => ⟨hs, rfl, fun _ _ => rfl⟩)
    (fun k s' hk ih hk' => by
      obtain ⟨h1, h2, h3⟩ := ih (by omega)
      refine ⟨h1.addC _ _ _, h2, fun i hi => ?_⟩
      refine Eq.trans ?_ (h3 i hi)
      exact (ent_addC h1.ra (by omega) _ _ i i).trans (if_neg (by omega))) n ht (Nat.le_refl _)
  exact ⟨Nat.le_of_eq this.2.1.symm, this.2.2⟩
theorem dk_next {p : Ph} {p' : Option Ph} (hp : PI r n p s) (hn : next r n p s = some (p', s')) : Dk s s' := by
  cases p
  · rw [next_choose] at hn
    split at hn
    · cases hn; exact ⟨Nat.le_refl _, fun _ _ => rfl⟩
    · rename_i hc
      split at hn
      · cases hn; exact ⟨Nat.le_refl _, fun _ _ => rfl⟩
      · rename_i x y hl
        cases hn
        have hL := least_ok s.a hp.tr hp.tn
        rw [hl] at hL
        have h1 : s.t < r := by have := hp.tr; omega
        have h2 : s.t < n := by have := hp.tn; omega
        have hx : s.t ≤ x := hL.1.1
        have hy : s.t ≤ y := hL.1.2.2.1
        refine ⟨Nat.le_refl _, fun i hi => ?_⟩
        refine (ent_swC (hp.sh.swR h1 hL.1.2.1).ra h2 hL.1.2.2.2 i i).trans ?_
        rw [sw_lt hy hi]
        refine (ent_swR hp.sh.ra h1 hL.1.2.1 i i).trans ?_
        rw [sw_lt hx hi]
  · rw [next_down] at hn
    split at hn
    · cases hn; exact dk_down hp.sh hp.ltr
    · cases hn
  · rw [next_across] at hn
    split at hn
    · cases hn; exact dk_across hp.sh hp.ltn
    · cases hn
  · rw [next_spread] at hn
    split at hn
    · cases hn; exact ⟨Nat.le_refl _, fun _ _ => rfl⟩
    · rename_i i hs
      obtain ⟨h1, h2, -⟩ := spreadAt_some hs
      split at hn
      · cases hn
        exact ⟨Nat.le_refl _, fun j hj => (ent_addR hp.sh.ra hp.ltr h2 _ j j).trans (if_neg (by omega))⟩
      · cases hn
  · rw [next_sign] at hn
    cases hn
    refine ⟨Nat.le_succ _, fun i hi => ?_⟩
    show ent s.sign.a i i = _
    unfold S.sign
    split
    · exact (ent_addR hp.sh.ra hp.ltr hp.ltr _ i i).trans (if_neg (by omega))
    · rfl
theorem dk_run : ∀ {k : Nat} {p : Ph} {s s' : S}, PI r n p s → run r n k p s = some (some s') → Dk s s'
  | 0, _, _, _, _, h => by cases h
  | k + 1, p, s, s', hp, h => by
    unfold run at h
    split at h
    · cases h
    · rename_i e; cases h; exact dk_next hp e
    · rename_i p' s1 e
      have h1 := dk_next hp e
      have h2 := dk_run (next_pi hp e) h
      exact ⟨Nat.le_trans h1.1 h2.1, fun i hi => (h2.2 i (by have := h1.1; omega)).trans (h1.2 i hi)⟩
/-- the entries that the reference has noted -/
theorem diag_step {k : Nat} {s τ : S} (hp : Base r n s) (h : run r n k .choose s = some (some τ)) {t : Nat} (ht : s.t = t + 1) {xs : List Int} (hx : xs = (diagOf τ).take t) : xs ++ [ent s.a t t] = (diagOf τ).take (t + 1) := by
  have hd := dk_run (p := .choose) hp h
  have hl : t < (diagOf τ).length := by
    have := hd.1
    simp only [diagOf, List.length_map, List.length_range]
    omega
  rw [List.take_succ_eq_append_getElem hl, ← hx, ← hd.2 t (by omega)]
  simp [diagOf]
end Go.Proofs.Sm
namespace Go.Proofs
open Go.RowKit Go.Shelf Go.Proofs.Sm
/-- the state at the start: no rows yet -/
theorem WkM.start70 {base : Nat} {w : World} {r n : Nat} {vu vv : Value} {blu csu blv csv : Nat → Nat} (hbw : base ≤ w.heap.size) (hu : MatM base w vu blu csu (idM r)) {base2 : Nat} (hb2 : base ≤ base2) (hult : (∀ i, i < r → blu i < base2) ∧ ∀ g, vu.ownBlock = some g → g < base2) (hv : MatM base2 w vv blv csv (idM n)) :
    Wk 86 w.heap.size base (w.alloc (.cells #[.slice none 0 0, vu, vv, .bool false] 86)) ⟨[], idM r, idM n, 0⟩ (.bool false) := by
  have hal : Below w.heap.size w (w.alloc (.cells #[.slice none 0 0, vu, vv, .bool false] 86)) := (Below.refl _ _).alloc (Nat.le_refl _) _
  have hu2 := hu.keep hal
  have hv2 := hv.keep hal
  refine ⟨fun k => if k = 0 then .slice none 0 0 else if k = 1 then vu else vv, fun k i => if k = 1 then blu i else blv i, fun k i => if k = 1 then csu i else csv i, ⟨by decide, by decide⟩, hbw, heap_alloc_new w _, fun k hk => ?_, fun k i hk hi => ?_, fun k i k' i' h1 h2 h3 h4 e => ?_, fun k k' h1 h2 h3 q hq hq' => ?_⟩
  · obtain rfl | rfl | rfl : k = 0 ∨ k = 1 ∨ k = 2 := by omega
    · exact World.ownsRow_nil _ _ _ _
    · exact hu2.out
    · exact owns_base hv2.out hb2
  · obtain rfl | rfl | rfl : k = 0 ∨ k = 1 ∨ k = 2 := by omega
    · exact absurd hi (Nat.not_lt_zero _)
    · exact hu2.row i hi
    · obtain ⟨a1, a2, a3⟩ := hv2.row i hi
      exact ⟨Nat.le_trans hb2 a1, a2, a3⟩
  · obtain rfl | rfl | rfl : k = 0 ∨ k = 1 ∨ k = 2 := by omega
    · exact absurd h3 (Nat.not_lt_zero _)
    · obtain rfl | rfl | rfl : k' = 0 ∨ k' = 1 ∨ k' = 2 := by omega
      · exact absurd h4 (Nat.not_lt_zero _)
      · exact ⟨rfl, hu2.inj i i' h3 h4 e⟩
      · have e2 : blu i = blv i' := e
        have h5 := hult.1 i (by rw [← idM_length r]; exact h3)
        have h6 := (hv2.row i' h4).1
        omega
    · obtain rfl | rfl | rfl : k' = 0 ∨ k' = 1 ∨ k' = 2 := by omega
      · exact absurd h4 (Nat.not_lt_zero _)
      · have e2 : blv i = blu i' := e
        have h5 := hult.1 i' (by rw [← idM_length r]; exact h4)
        have h6 := (hv2.row i h3).1
        omega
      · exact ⟨rfl, hv2.inj i i' h3 h4 e⟩
  · obtain rfl | rfl | rfl : k = 0 ∨ k = 1 ∨ k = 2 := by omega
    · cases hq
    · obtain rfl | rfl | rfl : k' = 0 ∨ k' = 1 ∨ k' = 2 := by omega
      · cases hq'
      · exact h3 rfl
      · have h5 := hult.2 q hq
        have h6 := (owns_block hv2.out q hq').1
        omega
    · obtain rfl | rfl | rfl : k' = 0 ∨ k' = 1 ∨ k' = 2 := by omega
      · cases hq'
      · have h5 := hult.2 q hq'
        have h6 := (owns_block hv2.out q hq).1
        omega
      · exact h3 rfl
section
variable {T b base : Nat} {w w' : World} {s : S} {x : Value} {vs : Nat → Value} {bl cs : Nat → Nat → Nat}
/-- a block of numbers that the state does not name is turned -/
theorem WkM.apart (h : WkM T b base w s x vs bl cs) {q : Option Nat} (hq : ∀ g, q = some g → ¬ Named b w g ∧ ∃ C, w.heap[g]? = some (.cells C 3 (0, 0))) (hk : ∀ p, p < w.heap.size → q ≠ some p → w'.heap[p]? = w.heap[p]?) : WkM T b base w' s x vs bl cs := by
  have hno : ∀ (p : Nat) (C : Array Value) (e : TypeId), w.heap[p]? = some (.cells C e (0, 0)) → e ≠ 3 → w'.heap[p]? = w.heap[p]? := fun p C e hp he => hk p (Array.getElem?_eq_some_iff.1 hp).1 fun e2 => by
    obtain ⟨-, D, hD⟩ := hq p e2
    rw [hp] at hD
    injection hD with h5
    injection h5 with _ h6 _
    exact he h6
  refine ⟨h.ty, h.bb, (hno b _ _ h.box h.ty.1).trans h.box, fun k hk3 => owns_keep (h.out k hk3) fun r hr => ?_, fun k i hk3 hi => ?_, h.inj, h.sep⟩
  · obtain ⟨-, C, hC⟩ := owns_block (h.out k hk3) r hr
    exact hno r C _ hC (by decide)
  · obtain ⟨a1, a2, a3⟩ := h.row k i hk3 hi
    exact ⟨a1, a2.keep (hk _ a2.lt fun e => (hq _ e).1 (h.named.2 ⟨k, i, hk3, hi, rfl⟩)), a3⟩
end
/-- the list of the diagonal: no block of the state -/
def DvAt (b base : Nat) (w : World) (A : Option Addr) (t c : Nat) (xs : List Int) : Prop := OwnI base w (.slice A t c) xs ∧ xs.length = t ∧ ∀ g, (Value.slice A t c).ownBlock = some g → ¬ Named b w g
section
variable {b base : Nat} {w w' : World} {s : S} {x : Value} {A : Option Addr} {t c : Nat} {xs : List Int}
theorem DvAt.chb (h : DvAt b base w A t c xs) (hc : Chb b base w w') : DvAt b base w' A t c xs :=
  ⟨owns_keep h.1 fun r hr => (let ⟨_, C, hC⟩ := owns_block h.1 r hr; (hc.rows r C hC (h.2.2 r hr)).1), h.2.1, fun g hg => let ⟨_, C, hC⟩ := owns_block h.1 g hg; (hc.rows g C hC (h.2.2 g hg)).2⟩
theorem DvAt.nil (b base : Nat) (w : World) : DvAt b base w none 0 0 [] := ⟨World.ownsRow_nil _ _ _ _, rfl, fun g hg => by cases hg⟩
theorem DvAt.push (h : DvAt b base w A t c xs) (hW : Wk 86 b base w s x) (hbw : base ≤ w.heap.size) (ht : t ≤ 1000000) (z : Int) :
    ∃ A' c' w', (Builtin.append_ #[25, 25] 25 #[.slice A t c, .slice (some ⟨w.heap.size, 0, none⟩) 1 1]).run Tryz.prog (w.alloc (.cells #[.int .i64 z] 3)) = .ok (.slice A' (t + 1) c') w' ∧ Wk 86 b base w' s x ∧ DvAt b base w' A' (t + 1) c' (xs ++ [z]) ∧ Below base w w' := by
  obtain ⟨hO, hl, hN⟩ := h
  obtain ⟨A', c', w', hr, ho, hg, hn⟩ := push_int 25 25 Tryz.underlying25 w base (.slice A t c) xs hO z (by omega) hbw
  rw [hl] at hr ho hn
  obtain ⟨vs, bl, cs, hM⟩ := hW
  have hq : ∀ g, (Value.slice A t c).ownBlock = some g → ¬ Named b w g ∧ ∃ C, w.heap[g]? = some (.cells C 3 (0, 0)) := fun g hg => ⟨hN g hg, (owns_block hO g hg).2⟩
  have hk : ∀ p, p < w.heap.size → (Value.slice A t c).ownBlock ≠ some p → w'.heap[p]? = w.heap[p]? := fun p hp hne => hg.block p hp (Ne.symm hne)
  have hM' := hM.apart (w' := w') hq hk
  refine ⟨A', c', w', hr, ⟨vs, bl, cs, hM'⟩, ⟨ho, by simp [hl], fun g hg' hnm => ?_⟩, (Below.refl base w).grown hg hbw fun r hr => (owns_block hO r hr).1⟩
  obtain ⟨k, i, hk3, hi, e⟩ := hM'.named.1 hnm
  rcases hn with hn | ⟨r, hr2, hge⟩
  · exact hN g (by rw [← hn]; exact hg') (hM.named.2 ⟨k, i, hk3, hi, e⟩)
  · rw [hr2] at hg'
    cases hg'
    have := (hM.row k i hk3 hi).2.1.lt
    omega
end
/-- the head of the reference's loop over the diagonal -/
def HeadS (b base r n : Nat) (o : Option S) (t : Nat) (w : World) : Prop :=
  (∃ σ m, σ.t = t ∧ Base r n σ ∧ run r n m .choose σ = some o ∧ Wk 86 b base w σ (.bool false)) ∨ (o = none ∧ ∃ σ, Wk 86 b base w σ (.bool true))
theorem stepR_cases {b base r n t : Nat} {w w' : World} {o : Option S} {e : Ending} {xs : List Int} (hx : ∀ τ, o = some τ → xs = (diagOf τ).take t) (h : StepR b base r n t w o e w') :
    (∃ σ, e = .returned (.bool false) ∧ o = some σ ∧ σ.t = t ∧ Wk 86 b base w' σ (.bool false) ∧ Chb b base w w') ∨
    (∃ σ ov, e = .returned (.bool true) ∧ Shape r n σ ∧ Wk 86 b base w' σ (.bool ov) ∧ Chb b base w w' ∧ (∀ W, Wk 86 b base W σ (.bool ov) → HeadS b base r n o (t + 1) W) ∧ ∀ τ, o = some τ → xs ++ [ent σ.a t t] = (diagOf τ).take (t + 1)) := by
  rcases h with h | ⟨σ, h1, ⟨h2, h3⟩, h4, h5⟩ | ⟨σ, m, h1, h2, h3, h4, h5, h6⟩
  · exact .inl h
  · exact .inr ⟨σ, true, h1, h3, h4, h5, fun W hW => .inr ⟨h2, σ, hW⟩, fun τ hτ => by rw [h2] at hτ; cases hτ⟩
  · refine .inr ⟨σ, false, h1, h3.sh, h5, h6, fun W hW => .inl ⟨σ, m, h2, h3, h4, hW⟩, fun τ hτ => ?_⟩
    subst hτ
    exact diag_step h3 h4 h2 (hx τ rfl)
theorem wk_tail {T b base r n : Nat} {w : World} {σ : S} {x : Value} (hW : Wk T b base w σ x) (hb : Base r n σ) : ∃ Au lu cu Av lv cv, w.cell? ⟨b, 1, none⟩ = some (.slice Au lu cu) ∧ w.cell? ⟨b, 2, none⟩ = some (.slice Av lv cv) ∧ Hid (Tab w (.slice Au lu cu) σ.u ∧ Tab w (.slice Av lv cv) σ.v) := by
  obtain ⟨vs, bl, cs, hM⟩ := hW
  obtain ⟨Au, cu, hvu, -, -⟩ := hM.form (k := 1) (by omega)
  obtain ⟨Av, cv, hvv, -, -⟩ := hM.form (k := 2) (by omega)
  have htu : Tab w (vs 1) σ.u := hM.tab (k := 1) (by omega) (fits_mat hb.bdu)
  have htv : Tab w (vs 2) σ.v := hM.tab (k := 2) (by omega) (fits_mat hb.bdv)
  have d1 := hM.cellk (k := 1) (by omega)
  have d2 := hM.cellk (k := 2) (by omega)
  rw [hvu] at d1 htu
  rw [hvv] at d2 htv
  exact ⟨_, _, _, _, _, _, d1, d2, Lib.hid ⟨htu, htv⟩⟩
def SmithPostP (o : Option S) (w : World) (e : Ending) (w' : World) : Prop := match o with
  | none => SmithPost [] [] [] 5 w e w'
  | some s => SmithPost (diagOf s) s.u s.v 0 w e w'
theorem fits_diag {r n : Nat} {σ : S} (hb : Base r n σ) : Fits (diagOf σ) := fun z hz => by
  simp only [diagOf, List.mem_map] at hz
  obtain ⟨j, -, rfl⟩ := hz
  have := hb.bda j j
  omega
end Go.Proofs
