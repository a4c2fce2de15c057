/- CosetMaps: a permutation out of numbers (f63): its two growing lists; The walk of permutation (f63; printed by genSc.py); CosetMaps: the map of numbers to lists (type 139) in pres.Satisfied; CosetMaps: the inverse of a permutation (f113 of pres); CosetMaps: the map of the letters' lists in pres.Satisfied; Plain: words are compared; the clean relators of a presentation. -/
import Derived.Test.YtmmbmhjdnlmedaaTsCS5
import Derived.Test.YtmmbmhjdnlmedaaTsCS6
import Derived.Test.YtmmbmhjdnlmedaaTsCS3
import Derived.Test.YtmmbmhjdnlmedaaTsCS1
namespace Go.Proofs
open Go.RowKit Go.Shelf Go.Proofs.Ct Go.Maps
theorem owns_low {w : World} {base base' e size n : Nat} {v : Value} {xs : List Value} (h : w.ownsRow base e size v n xs) (hb : base' ≤ base) : w.ownsRow base' e size v n xs := by
  obtain ⟨h1, h2⟩ := h
  refine ⟨h1, ?_⟩
  rcases h2 with h2 | ⟨g, cap, cur, a, b, r⟩
  · exact .inl h2
  · exact .inr ⟨g, cap, cur, a, Nat.le_trans hb b, r⟩
theorem fits_nz {s : List Nat} (h : ∀ x ∈ s, x < 9000000) : Fits (nz s) := fun y hy => by
  obtain ⟨x, hx, rfl⟩ := List.mem_map.1 hy
  have := h x hx
  omega
theorem nz_app (s o : List Nat) : nz (s ++ o) = nz s ++ nz o := List.map_append
theorem nz_take (s : List Nat) (k : Nat) : nz (s.take k) = (nz s).take k := List.map_take
theorem nz_drop (s : List Nat) (k : Nat) : nz (s.drop k) = (nz s).drop k := List.map_drop
/-- two lists of the call's own, apart from each other -/
structure PerS (w : World) (s o : List Nat) (vl vo : Value) (wr : World) : Prop where
  left : OwnI w.heap.size wr vl (nz s)
  out : OwnI w.heap.size wr vo (nz o)
  sep : ∀ r, vl.ownBlock = some r → vo.ownBlock ≠ some r
  below : Below w.heap.size w wr
theorem PerS.pushOut {w wr : World} {s o : List Nat} {vl vo : Value} (h : PerS w s o vl vo wr) (x : Nat) (ho : o.length ≤ 1000) :
    ∃ A c w', (Builtin.append_ #[23, 23] 23 #[vo, .slice (some ⟨wr.heap.size, 0, none⟩) 1 1]).run Try.prog (wr.alloc (.cells #[.int .i64 (x : Int)] 3)) = .ok (.slice A (o.length + 1) c) w' ∧ PerS w s (o ++ [x]) vl (.slice A (o.length + 1) c) w' := by
  obtain ⟨A, c, w', hr, hO, hg, hw⟩ := push_int 23 23 Try.underlying23 wr w.heap.size vo (nz o) h.out (x : Int) (by rw [length_nz]; omega) h.below.size
  rw [length_nz] at hr hO hw
  refine ⟨A, c, w', hr, owns_keep h.left fun r hr => hg.block r (owns_lt h.left hr) fun e => h.sep r hr e.symm, by rw [nz_app]; exact hO, fun r hr e => ?_, grown_below rfl h.below hg fun r hr => (owns_block h.out r hr).1⟩
  rcases hw with hw | ⟨q, hw, hq⟩
  · exact h.sep r hr (by rw [← hw]; exact e)
  · rw [hw] at e
    have := Option.some.inj e
    have := owns_lt h.left hr
    omega
theorem PerS.pushLeft {w wr : World} {s : List Nat} {vl : Value} (h : PerS w s [] vl (.slice none 0 0) wr) (x : Nat) (hs : s.length ≤ 1000) :
    ∃ A c w', (Builtin.append_ #[23, 23] 23 #[vl, .slice (some ⟨wr.heap.size, 0, none⟩) 1 1]).run Try.prog (wr.alloc (.cells #[.int .i64 (x : Int)] 3)) = .ok (.slice A (s.length + 1) c) w' ∧ PerS w (s ++ [x]) [] (.slice A (s.length + 1) c) (.slice none 0 0) w' := by
  obtain ⟨A, c, w', hr, hO, hg, hw⟩ := push_int 23 23 Try.underlying23 wr w.heap.size vl (nz s) h.left (x : Int) (by rw [length_nz]; omega) h.below.size
  rw [length_nz] at hr hO hw
  exact ⟨A, c, w', hr, by rw [nz_app]; exact hO, World.ownsRow_nil _ _ _ _, fun r _ e => (by cases e), grown_below rfl h.below hg fun r hr => (owns_block h.left r hr).1⟩
theorem bs24_0 (w : World) : (Instr.buildSlice 23 0 #[]).run Try.prog w = .ok (.slice (some ⟨w.heap.size, 0, none⟩) 0 0) (w.alloc (.cells #[] 3)) := by kernel_rfl
theorem r_bs24_0 {o : Oper} {a : Act} {w : World} (ho : o.op = .buildSlice 23 0 #[]) : (execOp a.eval o).run Try.prog w = .ok (.value (.slice (some ⟨w.heap.size, 0, none⟩) 0 0)) (w.alloc (.cells #[] 3)) := by
  have hb := bs24_0 w
  unfold execOp
  simp only [ho, List.map_toArray, List.map_nil, Sem.run_bind, hb, Result.andThen_ok]
  rfl
theorem r_slice_hi24 {o : Oper} {a : Act} {w : World} (x y : Operand) (A : Option Addr) (n c h : Nat) (ho : o.op = .slice 23 x none (some y) none) (hx : a.eval x = .slice A n c) (hy : a.eval y = .int .i64 (h : Int)) (hc : h ≤ c) : (execOp a.eval o).run Try.prog w = .ok (.value (sliced A 0 h c 1)) w := by
  have hu := under24e
  have hs : (sizeOf (Try.prog.elem 23)).run Try.prog w = .ok 1 w := by kernel_rfl
  unfold execOp
  simp only [ho, hx, hy, Option.map_none, Option.map_some, Sem.run_bind, run_sliceAt_slice w 23 _ _ _ _ hu, run_slice_h w 23 A n c hu .i64 (h : Int) (by omega) (by omega)]
  simp [hs]
/-- one element is cut out, into a new list -/
theorem PerS.cut {w wr : World} {s o : List Nat} {A : Option Addr} {c : Nat} {vo : Value} (h : PerS w s o (.slice A s.length c) vo wr) {k : Nat} (hk : k < s.length) (hs : s.length ≤ 1000) (hf : ∀ x ∈ s, x < 9000000) :
    ∃ Al cl Ah ch A1 c1 w1 A2 c2 w2, sliced A 0 k c 1 = .slice Al k cl ∧ sliced A (k + 1) s.length c 1 = .slice Ah (s.length - (k + 1)) ch ∧ k ≤ c ∧
      (Builtin.append_ #[23, 23] 23 #[.slice (some ⟨wr.heap.size, 0, none⟩) 0 0, .slice Al k cl]).run Try.prog (wr.drew.alloc (.cells #[] 3)) = .ok (.slice A1 k c1) w1 ∧
      (Builtin.append_ #[23, 23] 23 #[.slice A1 k c1, .slice Ah (s.length - (k + 1)) ch]).run Try.prog w1 = .ok (.slice A2 (s.length - 1) c2) w2 ∧
      PerS w (s.take k ++ s.drop (k + 1)) o (.slice A2 (s.length - 1) c2) vo w2 := by
  have hI : IntsAt wr (.slice A (nz s).length c) (nz s) := by rw [length_nz]; exact OwnI.ints h.left (fits_nz hf)
  obtain ⟨Al, hl1, hl2⟩ := ints_sliced hI (k := 0) (h := k) (Nat.zero_le _) (by rw [length_nz]; omega)
  obtain ⟨Ah, hh1, hh2⟩ := ints_sliced hI (k := k + 1) (h := s.length) (by omega) (by rw [length_nz]; exact Nat.le_refl _)
  have hcap : k ≤ c := by
    obtain ⟨A', c', e, hc1, -, -⟩ := hI.open_
    obtain ⟨-, -, rfl⟩ := Value.slice.inj e
    rw [length_nz] at hc1
    omega
  rw [Nat.sub_zero, Nat.sub_zero, List.drop_zero, ← nz_take] at hl2
  rw [Nat.sub_zero, Nat.sub_zero] at hl1
  rw [← length_nz s, List.take_length, length_nz, ← nz_drop] at hh2
  have hd := below_drew' wr
  have hal : Below wr.drew.heap.size wr.drew (wr.drew.alloc (.cells #[] 3)) := (Below.refl _ _).alloc (Nat.le_refl _) _
  have hba := bl3T hd hal
  have h0 : OwnI wr.heap.size (wr.drew.alloc (.cells #[] 3)) (.slice (some ⟨wr.heap.size, 0, none⟩) 0 0) [] := own_new wr.drew
  obtain ⟨A1, c1, w1, hr1, ho1, hg1, -⟩ := app_ints 23 23 Try.underlying23 (wr.drew.alloc (.cells #[] 3)) wr.heap.size _ [] h0 _ _ (kept_ints.below hl2 hba) (by simp) (by rw [length_nz]; simp; omega) hba.size
  rw [List.nil_append, length_nz, List.length_take, Nat.min_eq_left (by omega)] at hr1 ho1
  have hb1 : Below wr.heap.size wr w1 := hba.grown hg1 hba.size fun q hq => (owns_block h0 q hq).1
  obtain ⟨A2, c2, w2, hr2, ho2, hg2, -⟩ := app_ints 23 23 Try.underlying23 w1 wr.heap.size _ (nz (s.take k)) (by simpa [length_nz, Nat.min_eq_left (Nat.le_of_lt hk)] using ho1) _ _ (kept_ints.below hh2 hb1) (by rw [length_nz]; simp; omega) (by rw [length_nz]; simp; omega) hb1.size
  have hb2 : Below wr.heap.size wr w2 := hb1.grown hg2 hb1.size fun q hq => (owns_block ho1 q hq).1
  rw [← nz_app] at hr2 ho2
  have el : (nz (s.take k ++ s.drop (k + 1))).length = s.length - 1 := by rw [length_nz]; simp; omega
  rw [el] at hr2 ho2
  refine ⟨Al, c, Ah, c - (k + 1), A1, c1, w1, A2, c2, w2, hl1, hh1, hcap, hr1, hr2, owns_low ho2 h.below.size, owns_below h.out hb2, fun r hr e => ?_, bl3T h.below hb2⟩
  have h1 := (owns_block ho2 r hr).1
  have h2 := owns_lt h.out e
  omega
end Go.Proofs
namespace Go.Proofs
open Go.RowKit Go.Shelf Go.Proofs.Ct Go.Maps
theorem succ2 (w : World) (k : Nat) (hk : k ≤ 9000000) : (binOp .add 3 (.int .i64 (k : Int)) (.int .i64 1)).run Try.prog w = .ok (.int .i64 ((k + 1 : Nat) : Int)) w := by
  have e : wrap64 ((k : Int) + 1) = (k : Int) + 1 := IntWalk.wrap64_in _ ⟨by omega, by omega⟩
  simp [go_sem, IntWalk.i64_left, e]
theorem r_succ {o : Oper} {a : Act} {w : World} (x : Operand) (k : Nat) (hk : k ≤ 9000000) (ho : o.op = .binOp .add 3 x (.const (.int .i64 1)) 3) (hx : a.eval x = .int .i64 (k : Int)) : (execOp a.eval o).run Try.prog w = .ok (.value (.int .i64 ((k + 1 : Nat) : Int))) w := by
  have h := succ2 w k hk
  have hc : a.eval (.const (.int .i64 1)) = .int .i64 1 := rfl
  unfold execOp
  have hg : (eqGuard BinOp.add 3 x (.const (.int .i64 1)) (.int .i64 (k : Int)) (.int .i64 1)).run Try.prog w = .ok () w := rfl
  simp only [ho, hx, hc, Sem.run_bind, hg, h, Result.andThen_ok]
  rfl
theorem pick_cast {l : List Int} {k n : Nat} (h : k < l.length) (hn : 1 ≤ n) : l.getD k 0 % (n : Int) = ((pick l k n : Nat) : Int) := by
  unfold pick
  rw [if_pos h]
  have h2 := Int.emod_nonneg (l.getD k 0) (show (n : Int) ≠ 0 by omega)
  omega
set_option maxRecDepth 100000 in
set_option maxHeartbeats 2000000 in
theorem perm63_any (w : World) (vl : Value) (l : List Int) (d : Nat) (hd : 1 ≤ d ∧ d ≤ 6) (hl : IntsAt w vl l) :
    Calls Try.prog 14 #[vl, .int .i64 (d : Int)] w fun e w' => (∃ A c, e = .returned (.slice A d c) ∧ IntsAt w' (.slice A d c) (nz (permF d l))) ∧ Below w.heap.size w w' := by
  have HI := Lib.hid hl
  obtain ⟨Al0, cl0, rfl, hl1, hl2, -⟩ := hl.open_
  have hl3 : (l.length : Int) ≤ 9223372036854775807 := by omega
  have hl4 : (0 : Int) ≤ (l.length : Int) := Int.natCast_nonneg _
  have hd0 : (1 : Int) ≤ (d : Int) := by omega
  have hd6 : (d : Int) ≤ 6 := by omega
  obtain ⟨hdn1, hdn6⟩ := hd
  clear hl hl1 hl2
  go_enter Try.func14, Try.ntmps14
  go_wp2_with fail
  go_loopw [5, 7] (fun vl i wr => ∃ k : Nat, i = .int .i64 (k : Int) ∧ k ≤ d ∧ ∃ A c, vl = .slice A k c ∧ Hid (PerS w (List.range k) [] vl (.slice none 0 0) wr)) (fun _ i _ => d - (intOf i).toNat)
  case atStart => exact ⟨0, rfl, Nat.zero_le _, none, 0, rfl, Lib.hid ⟨World.ownsRow_nil _ _ _ _, World.ownsRow_nil _ _ _ _, fun r e => (by cases e), Below.refl _ _⟩⟩
  case round =>
    obtain ⟨k, rfl, hk, A, c, rfl, HPS⟩ := hrel
    have hk0 : (0 : Int) ≤ (k : Int) := Int.natCast_nonneg _
    by_cases hkd : k < d
    · have hkd' : (k : Int) < (d : Int) := by omega
      obtain ⟨A6, c6, w6, hr6, hP6⟩ := HPS.out.pushLeft k (by rw [List.length_range]; omega)
      rw [List.length_range] at hr6 hP6
      rw [← List.range_succ] at hP6
      have HR6 := Lib.hid hr6
      have HP6 := Lib.hid hP6
      clear hr6 hP6 HPS
      go_wp2_with (first
        | ((with_reducible refine wpList_sel 18 ?_); refine wpList_val rfl (r_app (.tmp 15) (.tmp 17) 23 rfl rfl rfl HR6.out) ?_))
      go_roundw
      case rel => exact ⟨k + 1, by go_num, by omega, A6, c6, rfl, HP6⟩
      case measure => simp [intOf]; omega
    · obtain rfl : d = k := by omega
      clear hkd hk
      have HS0 : Hid (PerS w (perSt d l 0).1 (perSt d l 0).2 (.slice A d c) (.slice none 0 0) wr) := HPS
      clear HPS
      go_wp2_with fail
      go_loopw [5, 6, 8] (fun vl vo i wr => ∃ k n : Nat, i = .int .i64 (k : Int) ∧ n + k = d ∧ ∃ A c A' c', vl = .slice A n c ∧ vo = .slice A' k c' ∧ Hid (PerS w (perSt d l k).1 (perSt d l k).2 vl vo wr)) (fun _ _ i _ => d - (intOf i).toNat)
      case atStart => exact ⟨0, d, rfl, rfl, A, c, none, 0, rfl, rfl, HS0⟩
      case round =>
        obtain ⟨k, n, rfl, hnk, A, c, Ao, co, rfl, rfl, HPS⟩ := hrel
        have hk0 : (0 : Int) ≤ (k : Int) := Int.natCast_nonneg _
        have hkl : k ≤ d := by omega
        obtain ⟨s1, s2, -⟩ := perSt_ok d l k hkl
        by_cases hkd : k < d
        · have hkd' : (k : Int) < (d : Int) := by omega
          have HSL : Hid ((perSt d l k).1.length = n) := Lib.hid (by omega)
          have HOL : Hid ((perSt d l k).2.length = k) := Lib.hid s2
          have HFS : Hid (∀ x ∈ (perSt d l k).1, x < 9000000) := Lib.hid fun x hx => by have := (perSt_left_lt d l k hkl).1 x hx; omega
          have HNX : Hid (perSt d l (k + 1) = ((perSt d l k).1.take (pick l k n) ++ (perSt d l k).1.drop (pick l k n + 1), (perSt d l k).2 ++ [(perSt d l k).1.getD (pick l k n) 0])) := Lib.hid (by rw [perSt, HSL.out])
          have hpk := pick_lt l k (n := n) (by omega)
          obtain ⟨g, cg, eg, hgc⟩ := own_cells HPS.out.left (k := 0) (by rw [length_nz, HSL.out]; omega)
          rw [length_nz, HSL.out] at eg hgc
          obtain ⟨rfl, -, rfl⟩ := Value.slice.inj eg
          have HPI : Hid (k < l.length → l.getD k 0 % (n : Int) = ((pick l k n : Nat) : Int)) := Lib.hid fun h => pick_cast h (by omega)
          have HPZ : Hid (¬ k < l.length → pick l k n = 0) := Lib.hid fun h => by unfold pick; rw [if_neg h]
          have HIW : Hid (IntsAt wr (.slice Al0 l.length cl0) l) := Lib.hid (HI.out.below HPS.out.below)
          clear s1 s2 eg
          generalize pick l k n = pk at *
          have x1 := hgc pk hpk
          rw [nz_getD] at x1
          have hpk0 : (0 : Int) ≤ (pk : Int) := Int.natCast_nonneg _
          have hpk1 : (pk : Int) < (n : Int) := by omega
          have hn6 : (n : Int) ≤ 6 := by omega
          have hn1 : (1 : Int) ≤ (n : Int) := by omega
          clear hgc
          have HLS : Hid ((perSt d l k).1.length = n ∧ (perSt d l k).2.length = k) := Lib.hid ⟨HSL.out, HOL.out⟩
          generalize (perSt d l k).1 = s at *
          generalize (perSt d l k).2 = o at *
          by_cases hkl2 : k < l.length
          · have hkl3 : (k : Int) < (l.length : Int) := by omega
            obtain ⟨A', c', e', -, -, hcc⟩ := HIW.out.open_
            obtain ⟨bl, ol, rfl, hc2⟩ := (by obtain ⟨rfl, -, rfl⟩ := Value.slice.inj e'; exact hcc (by omega) : ∃ b off, Al0 = some ⟨b, off, none⟩ ∧ ∀ k, k < l.length → wr.cell? ⟨b, off + k, none⟩ = some (.int .i64 (l.getD k 0)))
            have x2 := hc2 k hkl2
            have HT : Hid (Calls Try.prog 13 #[.int .i64 (l.getD k 0), .int .i64 (n : Int)] wr fun e w' => e = .returned (.int .i64 ((pk : Nat) : Int)) ∧ w' = wr) := Lib.hid (by
              rw [← HPI.out hkl2]
              exact turn59_any wr (l.getD k 0) n (by omega))
            generalize l.getD k 0 = lx at *
            clear hc2 hcc e' HIW HPI HPZ
            go_wp2_with fail
            refine HT.out.mono ?_
            rintro e w5 ⟨rfl, rfl⟩
            have hsl := HSL.out
            have hol := HOL.out
            obtain ⟨A6, c6, w6, hr6, hP6⟩ := HPS.out.pushOut (s.getD pk 0) (by omega)
            have hP7 : PerS w s (o ++ [s.getD pk 0]) (.slice (some ⟨g, 0, none⟩) s.length c) (.slice A6 (o.length + 1) c6) w6 := by rw [hsl]; exact hP6
            obtain ⟨Al, cl, Ah, ch, A1, c1, w7, A2, c2, w8, hl1, hl2, hc1, hr1, hr2, hP8⟩ := hP7.cut (k := pk) (by omega) (by omega) HFS.out
            rw [HSL.out] at hr2 hl2 hP8
            rw [HOL.out] at hr6 hP8
            have HR6 := Lib.hid hr6
            have HR1 := Lib.hid hr1
            have HL1 := Lib.hid hl1
            have HC1 := Lib.hid hc1
            have HC2 : Hid (pk + 1 ≤ n) := Lib.hid (by omega)
            have HN2 : Hid (n - 1 + (k + 1) = d) := Lib.hid (by omega)
            have HQ : Hid (Hid (PerS w (perSt d l (k + 1)).1 (perSt d l (k + 1)).2 (.slice A2 (n - 1) c2) (.slice A6 (k + 1) c6) w8)) := Lib.hid (Lib.hid (by rw [HNX.out]; exact hP8))
            clear hr6 hP6 hP7 hr1 hl1 hc1 hP8 hsl hol
            generalize n - 1 = n2 at *
            generalize n - (pk + 1) = n3 at *
            have HR2 := Lib.hid hr2
            have HL2 := Lib.hid hl2
            clear hr2 hl2
            generalize s.getD pk 0 = z at *
            go_wp2_with (first
              | ((with_reducible refine wpList_sel 41 ?_); refine wpList_val rfl (r_app (.tmp 35) (.tmp 40) 23 rfl rfl rfl HR6.out) ?_))
            refine (wpIn_wide (n := 3)).1 ?_
            refine wpIn_region_all (by kernel_rfl) 11 rfl (fun i => if i < 10 then some (42 + i) else some 5) (lex_of (by kernel_rfl)) (fun ls W => W = bif ls 9 then w8 else bif ls 4 then w7 else bif ls 0 then w6.drew.alloc (.cells #[] 3) else w6.drew)
              (fun i v _ => v = ([.slice (some ⟨w6.heap.size, 0, none⟩) 0 0, .slice (some ⟨g, 0, none⟩) n c, .int .i64 ((pk : Nat) : Int), .slice Al pk cl, .slice A1 pk c1, .slice (some ⟨g, 0, none⟩) n c, .int .i64 ((pk : Nat) : Int), .int .i64 ((pk + 1 : Nat) : Int), .slice Ah n3 ch, .slice A2 n2 c2, .slice A2 n2 c2] : List Value).getD i undef) (fun _ _ _ => True) (dm_inj (by kernel_rfl)) (fun _ _ _ _ _ _ _ _ _ h => h) (dm_lt (n := 53) (by kernel_rfl)) rfl ?_ ?_
            · intro ls q o a w2 hq ho hS2 hls hcl hP hpre
              have hcases : q = 0 ∨ q = 1 ∨ q = 2 ∨ q = 3 ∨ q = 4 ∨ q = 5 ∨ q = 6 ∨ q = 7 ∨ q = 8 ∨ q = 9 ∨ q = 10 := by
                have : q < 11 := hq
                omega
              rcases hcases with rfl | rfl | rfl | rfl | rfl | rfl | rfl | rfl | rfl | rfl | rfl
              · obtain rfl := Option.some.inj ho
                have h4 := not_yet hcl 4 rfl ⟨0, .data⟩ (by simp) rfl hls
                have h9 := not_yet hcl 9 rfl ⟨4, .data⟩ (by simp) rfl h4
                rw [h4, h9, hls] at hS2
                have hS3 : w2 = w6.drew := hS2
                subst hS3
                exact wpOpIn_of rfl rfl (wpW_val (r_bs24_0 rfl) ⟨_, rfl, (by rw [show (fun j => if 0 = j then true else ls j) 9 = false from h9, show (fun j => if 0 = j then true else ls j) 4 = false from h4]; rfl), trivial, (fun h => by simp at h), rfl⟩)
              · obtain rfl := Option.some.inj ho
                have h3 := not_yet hcl 3 rfl ⟨1, .data⟩ (by simp) rfl hls
                have h4 := not_yet hcl 4 rfl ⟨3, .data⟩ (by simp) rfl h3
                have h9 := not_yet hcl 9 rfl ⟨4, .data⟩ (by simp) rfl h4
                have h10 := not_yet hcl 10 rfl ⟨9, .data⟩ (by simp) rfl h9
                exact wpOpIn_of rfl rfl (wpW_val (r_move (.tmp 5) rfl (hP.out 5 (dm_out1 h10 (by kernel_rfl)))) ⟨_, rfl, hS2, trivial, (fun h => by simp at h), rfl⟩)
              · obtain rfl := Option.some.inj ho
                exact wpOpIn_of rfl rfl (wpW_val (r_move (.tmp 9) rfl (hP.out 9 (dm_out (by kernel_rfl)))) ⟨_, rfl, hS2, trivial, (fun h => by simp at h), rfl⟩)
              · obtain rfl := Option.some.inj ho
                exact wpOpIn_of rfl rfl (wpW_val ((r_slice_hi24 (.tmp 43) (.tmp 44) (some ⟨g, 0, none⟩) n c pk rfl (hpre ⟨1, .data⟩ (by simp) rfl).2 (hpre ⟨2, .data⟩ (by simp) rfl).2 HC1.out).trans (by rw [HL1.out]; rfl)) ⟨_, rfl, hS2, trivial, (fun h => by simp at h), rfl⟩)
              · obtain rfl := Option.some.inj ho
                have h9 := not_yet hcl 9 rfl ⟨4, .data⟩ (by simp) rfl hls
                have h0 : ls 0 = true := (hpre ⟨0, .data⟩ (by simp) rfl).1
                rw [h9, hls, h0] at hS2
                have hS3 : w2 = w6.drew.alloc (.cells #[] 3) := hS2
                subst hS3
                exact wpOpIn_of rfl rfl (wpW_val (r_app (.tmp 42) (.tmp 45) 23 rfl (hpre ⟨0, .data⟩ (by simp) rfl).2 (hpre ⟨3, .data⟩ (by simp) rfl).2 HR1.out) ⟨_, rfl, (by rw [show (fun j => if 4 = j then true else ls j) 9 = false from h9]; rfl), trivial, (fun h => by simp at h), rfl⟩)
              · obtain rfl := Option.some.inj ho
                have h8 := not_yet hcl 8 rfl ⟨5, .data⟩ (by simp) rfl hls
                have h9 := not_yet hcl 9 rfl ⟨8, .data⟩ (by simp) rfl h8
                have h10 := not_yet hcl 10 rfl ⟨9, .data⟩ (by simp) rfl h9
                exact wpOpIn_of rfl rfl (wpW_val (r_move (.tmp 5) rfl (hP.out 5 (dm_out1 h10 (by kernel_rfl)))) ⟨_, rfl, hS2, trivial, (fun h => by simp at h), rfl⟩)
              · obtain rfl := Option.some.inj ho
                exact wpOpIn_of rfl rfl (wpW_val (r_move (.tmp 9) rfl (hP.out 9 (dm_out (by kernel_rfl)))) ⟨_, rfl, hS2, trivial, (fun h => by simp at h), rfl⟩)
              · obtain rfl := Option.some.inj ho
                exact wpOpIn_of rfl rfl (wpW_val (r_succ (.tmp 48) pk (by omega) rfl (hpre ⟨6, .data⟩ (by simp) rfl).2) ⟨_, rfl, hS2, trivial, (fun h => by simp at h), rfl⟩)
              · obtain rfl := Option.some.inj ho
                exact wpOpIn_of rfl rfl (wpW_val ((r_slice_lo (.tmp 47) (.tmp 49) (some ⟨g, 0, none⟩) n c (pk + 1) rfl (hpre ⟨5, .data⟩ (by simp) rfl).2 (hpre ⟨7, .data⟩ (by simp) rfl).2 HC2.out).trans (by rw [HL2.out]; rfl)) ⟨_, rfl, hS2, trivial, (fun h => by simp at h), rfl⟩)
              · obtain rfl := Option.some.inj ho
                have h4 : ls 4 = true := (hpre ⟨4, .data⟩ (by simp) rfl).1
                rw [hls, h4] at hS2
                have hS3 : w2 = w7 := hS2
                subst hS3
                exact wpOpIn_of rfl rfl (wpW_val (r_app (.tmp 46) (.tmp 50) 23 rfl (hpre ⟨4, .data⟩ (by simp) rfl).2 (hpre ⟨8, .data⟩ (by simp) rfl).2 HR2.out) ⟨_, rfl, rfl, trivial, (fun h => by simp at h), rfl⟩)
              · obtain rfl := Option.some.inj ho
                exact wpOpIn_of rfl rfl (wpW_val (r_assign (.tmp 51) rfl (hpre ⟨9, .data⟩ (by simp) rfl).2) ⟨_, rfl, hS2, trivial, (fun h => by simp at h), rfl⟩)
            · intro ls a w2 hall hS2 hP hsl
              have h9 : ls 9 = true := hall 9 (by decide)
              rw [h9] at hS2
              obtain ⟨vs, hvs, hfr⟩ := hP.frame 53 rfl
              have hv5 : vs 5 = .slice A2 n2 c2 := (hvs 5).trans (hsl 10 (by decide))
              have hS3 : w2 = w8 := hS2
              clear hsl hP hall h9 hvs HR1 HR2 HL1 HL2 hS2
              subst hfr
              subst hS3
              dsimp only
              simp only [List.range, List.range.loop, List.map_cons, List.map_nil, List.any_cons, List.any_nil, Nat.reduceAdd, Nat.reduceBEq, Nat.reduceLT, Option.some_beq_some, Bool.or_false, Bool.or_true, if_true, if_false, List.getD_cons_zero, List.getD_cons_succ, hv5]
              go_wp2_with fail
              go_roundw
              case rel => exact ⟨.slice A2 n2 c2, .slice A6 (k + 1) c6, .int .i64 ((k : Int) + 1), ⟨k + 1, by go_num, n2, HN2.out, ⟨_, _, rfl⟩, ⟨_, _, rfl⟩, HQ.out⟩, rfl, rfl, rfl⟩
              case measure => simp [intOf]; omega
          · have hkl3 : ¬ (k : Int) < (l.length : Int) := by omega
            obtain rfl : pk = 0 := HPZ.out hkl2
            clear HIW HPI HPZ
            have hsl := HSL.out
            have hol := HOL.out
            obtain ⟨A6, c6, w6, hr6, hP6⟩ := HPS.out.pushOut (s.getD 0 0) (by omega)
            have hP7 : PerS w s (o ++ [s.getD 0 0]) (.slice (some ⟨g, 0, none⟩) s.length c) (.slice A6 (o.length + 1) c6) w6 := by rw [hsl]; exact hP6
            obtain ⟨Al, cl, Ah, ch, A1, c1, w7, A2, c2, w8, hl1, hl2, hc1, hr1, hr2, hP8⟩ := hP7.cut (k := 0) (by omega) (by omega) HFS.out
            rw [HSL.out] at hr2 hl2 hP8
            rw [HOL.out] at hr6 hP8
            have HR6 := Lib.hid hr6
            have HR1 := Lib.hid hr1
            have HL1 := Lib.hid hl1
            have HC1 := Lib.hid hc1
            have HC2 : Hid (0 + 1 ≤ n) := Lib.hid (by omega)
            have HN2 : Hid (n - 1 + (k + 1) = d) := Lib.hid (by omega)
            have HQ : Hid (Hid (PerS w (perSt d l (k + 1)).1 (perSt d l (k + 1)).2 (.slice A2 (n - 1) c2) (.slice A6 (k + 1) c6) w8)) := Lib.hid (Lib.hid (by rw [HNX.out]; exact hP8))
            clear hr6 hP6 hP7 hr1 hl1 hc1 hP8 hsl hol
            generalize n - 1 = n2 at *
            have HR2 := Lib.hid hr2
            have HL2 := Lib.hid hl2
            clear hr2 hl2
            generalize s.getD 0 0 = z at *
            go_wp2_with (first
              | ((with_reducible refine wpList_sel 41 ?_); refine wpList_val rfl (r_app (.tmp 35) (.tmp 40) 23 rfl rfl rfl HR6.out) ?_))
            refine (wpIn_wide (n := 3)).1 ?_
            refine wpIn_region_all (by kernel_rfl) 11 rfl (fun i => if i < 10 then some (42 + i) else some 5) (lex_of (by kernel_rfl)) (fun ls W => W = bif ls 9 then w8 else bif ls 4 then w7 else bif ls 0 then w6.drew.alloc (.cells #[] 3) else w6.drew)
              (fun i v _ => v = ([.slice (some ⟨w6.heap.size, 0, none⟩) 0 0, .slice (some ⟨g, 0, none⟩) n c, .int .i64 ((0 : Nat) : Int), .slice Al 0 cl, .slice A1 0 c1, .slice (some ⟨g, 0, none⟩) n c, .int .i64 ((0 : Nat) : Int), .int .i64 ((0 + 1 : Nat) : Int), .slice Ah n2 ch, .slice A2 n2 c2, .slice A2 n2 c2] : List Value).getD i undef) (fun _ _ _ => True) (dm_inj (by kernel_rfl)) (fun _ _ _ _ _ _ _ _ _ h => h) (dm_lt (n := 53) (by kernel_rfl)) rfl ?_ ?_
            · intro ls q o a w2 hq ho hS2 hls hcl hP hpre
              have hcases : q = 0 ∨ q = 1 ∨ q = 2 ∨ q = 3 ∨ q = 4 ∨ q = 5 ∨ q = 6 ∨ q = 7 ∨ q = 8 ∨ q = 9 ∨ q = 10 := by
                have : q < 11 := hq
                omega
              rcases hcases with rfl | rfl | rfl | rfl | rfl | rfl | rfl | rfl | rfl | rfl | rfl
              · obtain rfl := Option.some.inj ho
                have h4 := not_yet hcl 4 rfl ⟨0, .data⟩ (by simp) rfl hls
                have h9 := not_yet hcl 9 rfl ⟨4, .data⟩ (by simp) rfl h4
                rw [h4, h9, hls] at hS2
                have hS3 : w2 = w6.drew := hS2
                subst hS3
                exact wpOpIn_of rfl rfl (wpW_val (r_bs24_0 rfl) ⟨_, rfl, (by rw [show (fun j => if 0 = j then true else ls j) 9 = false from h9, show (fun j => if 0 = j then true else ls j) 4 = false from h4]; rfl), trivial, (fun h => by simp at h), rfl⟩)
              · obtain rfl := Option.some.inj ho
                have h3 := not_yet hcl 3 rfl ⟨1, .data⟩ (by simp) rfl hls
                have h4 := not_yet hcl 4 rfl ⟨3, .data⟩ (by simp) rfl h3
                have h9 := not_yet hcl 9 rfl ⟨4, .data⟩ (by simp) rfl h4
                have h10 := not_yet hcl 10 rfl ⟨9, .data⟩ (by simp) rfl h9
                exact wpOpIn_of rfl rfl (wpW_val (r_move (.tmp 5) rfl (hP.out 5 (dm_out1 h10 (by kernel_rfl)))) ⟨_, rfl, hS2, trivial, (fun h => by simp at h), rfl⟩)
              · obtain rfl := Option.some.inj ho
                exact wpOpIn_of rfl rfl (wpW_val (r_move (.tmp 9) rfl (hP.out 9 (dm_out (by kernel_rfl)))) ⟨_, rfl, hS2, trivial, (fun h => by simp at h), rfl⟩)
              · obtain rfl := Option.some.inj ho
                exact wpOpIn_of rfl rfl (wpW_val ((r_slice_hi24 (.tmp 43) (.tmp 44) (some ⟨g, 0, none⟩) n c 0 rfl (hpre ⟨1, .data⟩ (by simp) rfl).2 (hpre ⟨2, .data⟩ (by simp) rfl).2 HC1.out).trans (by rw [HL1.out]; rfl)) ⟨_, rfl, hS2, trivial, (fun h => by simp at h), rfl⟩)
              · obtain rfl := Option.some.inj ho
                have h9 := not_yet hcl 9 rfl ⟨4, .data⟩ (by simp) rfl hls
                have h0 : ls 0 = true := (hpre ⟨0, .data⟩ (by simp) rfl).1
                rw [h9, hls, h0] at hS2
                have hS3 : w2 = w6.drew.alloc (.cells #[] 3) := hS2
                subst hS3
                exact wpOpIn_of rfl rfl (wpW_val (r_app (.tmp 42) (.tmp 45) 23 rfl (hpre ⟨0, .data⟩ (by simp) rfl).2 (hpre ⟨3, .data⟩ (by simp) rfl).2 HR1.out) ⟨_, rfl, (by rw [show (fun j => if 4 = j then true else ls j) 9 = false from h9]; rfl), trivial, (fun h => by simp at h), rfl⟩)
              · obtain rfl := Option.some.inj ho
                have h8 := not_yet hcl 8 rfl ⟨5, .data⟩ (by simp) rfl hls
                have h9 := not_yet hcl 9 rfl ⟨8, .data⟩ (by simp) rfl h8
                have h10 := not_yet hcl 10 rfl ⟨9, .data⟩ (by simp) rfl h9
                exact wpOpIn_of rfl rfl (wpW_val (r_move (.tmp 5) rfl (hP.out 5 (dm_out1 h10 (by kernel_rfl)))) ⟨_, rfl, hS2, trivial, (fun h => by simp at h), rfl⟩)
              · obtain rfl := Option.some.inj ho
                exact wpOpIn_of rfl rfl (wpW_val (r_move (.tmp 9) rfl (hP.out 9 (dm_out (by kernel_rfl)))) ⟨_, rfl, hS2, trivial, (fun h => by simp at h), rfl⟩)
              · obtain rfl := Option.some.inj ho
                exact wpOpIn_of rfl rfl (wpW_val (r_succ (.tmp 48) 0 (by omega) rfl (hpre ⟨6, .data⟩ (by simp) rfl).2) ⟨_, rfl, hS2, trivial, (fun h => by simp at h), rfl⟩)
              · obtain rfl := Option.some.inj ho
                exact wpOpIn_of rfl rfl (wpW_val ((r_slice_lo (.tmp 47) (.tmp 49) (some ⟨g, 0, none⟩) n c (0 + 1) rfl (hpre ⟨5, .data⟩ (by simp) rfl).2 (hpre ⟨7, .data⟩ (by simp) rfl).2 HC2.out).trans (by rw [HL2.out]; rfl)) ⟨_, rfl, hS2, trivial, (fun h => by simp at h), rfl⟩)
              · obtain rfl := Option.some.inj ho
                have h4 : ls 4 = true := (hpre ⟨4, .data⟩ (by simp) rfl).1
                rw [hls, h4] at hS2
                have hS3 : w2 = w7 := hS2
                subst hS3
                exact wpOpIn_of rfl rfl (wpW_val (r_app (.tmp 46) (.tmp 50) 23 rfl (hpre ⟨4, .data⟩ (by simp) rfl).2 (hpre ⟨8, .data⟩ (by simp) rfl).2 HR2.out) ⟨_, rfl, rfl, trivial, (fun h => by simp at h), rfl⟩)
              · obtain rfl := Option.some.inj ho
                exact wpOpIn_of rfl rfl (wpW_val (r_assign (.tmp 51) rfl (hpre ⟨9, .data⟩ (by simp) rfl).2) ⟨_, rfl, hS2, trivial, (fun h => by simp at h), rfl⟩)
            · intro ls a w2 hall hS2 hP hsl
              have h9 : ls 9 = true := hall 9 (by decide)
              rw [h9] at hS2
              obtain ⟨vs, hvs, hfr⟩ := hP.frame 53 rfl
              have hv5 : vs 5 = .slice A2 n2 c2 := (hvs 5).trans (hsl 10 (by decide))
              have hS3 : w2 = w8 := hS2
              clear hsl hP hall h9 hvs HR1 HR2 HL1 HL2 hS2
              subst hfr
              subst hS3
              dsimp only
              simp only [List.range, List.range.loop, List.map_cons, List.map_nil, List.any_cons, List.any_nil, Nat.reduceAdd, Nat.reduceBEq, Nat.reduceLT, Option.some_beq_some, Bool.or_false, Bool.or_true, if_true, if_false, List.getD_cons_zero, List.getD_cons_succ, hv5]
              go_wp2_with fail
              go_roundw
              case rel => exact ⟨.slice A2 n2 c2, .slice A6 (k + 1) c6, .int .i64 ((k : Int) + 1), ⟨k + 1, by go_num, n2, HN2.out, ⟨_, _, rfl⟩, ⟨_, _, rfl⟩, HQ.out⟩, rfl, rfl, rfl⟩
              case measure => simp [intOf]; omega
        · obtain rfl : d = k := by omega
          obtain rfl : n = 0 := by omega
          have HE : Hid (IntsAt wr (.slice Ao d co) (nz (permF d l))) := Lib.hid (OwnI.ints HPS.out.out (fits_nz fun x hx => by have := (perSt_left_lt d l d (Nat.le_refl _)).2 x hx; omega))
          have HB := Lib.hid HPS.out.below
          clear HPS
          go_wp2_with fail
          go_ret
          exact ⟨⟨Ao, co, rfl, HE.out⟩, HB.out⟩
end Go.Proofs
namespace Go.Proofs
open Go.RowKit Go.Shelf Go.Proofs.Ct Go.Maps
theorem under139 : Try.prog.underlying 72 = some (.map 3 40) := by kernel_rfl
theorem zero81 (w : World) : (zeroValue 40).run Try.prog w = .ok (.slice none 0 0) w := by kernel_rfl
/-- an element reads as itself -/
def heldE (v : Value) : Option (DataW Value × List MemPlace) := some (.held v, [])
/-- block b is a map that has f s at the number s -/
def MapV (w : World) (b n : Nat) (f : Int → Value) : Prop :=
  ∃ D, w.ownsMap (H := Value) Try.prog 3 heldE b n D ∧ ∀ s, I64 s → D.atKey (.int .i64 s) (.held (.slice none 0 0)) = .held (f s)
theorem MapV.made (w : World) : MapV (w.alloc (.map #[] 0)) w.heap.size 0 (fun _ => .slice none 0 0) :=
  ⟨.map [], World.ownsMap_made _ _ _ _, fun _ _ => rfl⟩
theorem MapV.kept {w w' : World} {b n : Nat} {f : Int → Value} {row : Option Nat} (h : MapV w b n f) (hg : w.grownBy w' row) (hne : row ≠ some b) : MapV w' b n f := by
  obtain ⟨D, h2, h3⟩ := h
  exact ⟨D, h2.kept hg (Ne.symm hne), h3⟩
theorem MapV.lt {w : World} {b n : Nat} {f : Int → Value} (h : MapV w b n f) : b < w.heap.size := by
  obtain ⟨D, h2, -⟩ := h
  exact h2.lt
theorem MapV.below {w w' : World} {b n : Nat} {f : Int → Value} (h : MapV w b n f) (hb : Below w.heap.size w w') : MapV w' b n f := by
  obtain ⟨D, ⟨es, clock, h1, h2⟩, h3⟩ := h
  exact ⟨D, ⟨es, clock, (hb.block b (Array.getElem?_eq_some_iff.1 h1).1).trans h1, h2⟩, h3⟩
theorem MapV.isMapObj {w : World} {b n : Nat} {f : Int → Value} (h : MapV w b n f) : ∃ es clock, w.heap[b]? = some (.map es clock) := by
  obtain ⟨D, ⟨es, clock, hb, -⟩, h3⟩ := h
  exact ⟨es, clock, hb⟩
theorem MapV.look {w : World} {b n : Nat} {f : Int → Value} (h : MapV w b n f) {s : Int} (hs : I64 s) : (Instr.lookup 72 (.map (some b)) (.int .i64 s) false).run Try.prog w = .ok (f s) w := by
  obtain ⟨D, h2, h3⟩ := h
  obtain ⟨v, ps, hr, hv⟩ := h2.lookup (int_keyed Try.underlying3) under139 (zero81 w) (zd := .held (.slice none 0 0)) (zp := []) rfl (key3 hs)
  rw [h3 s hs] at hv
  have h4 : (some (DataW.held v, []) : Option (DataW Value × List MemPlace)) = some (DataW.held (f s), ps) := hv
  have h5 : v = f s := by simpa using (congrArg (fun x => x.map Prod.fst) h4)
  rw [← h5]
  exact hr
theorem MapV.put {w : World} {b n : Nat} {f : Int → Value} (h : MapV w b n f) {s : Int} (hs : I64 s) (hn : n ≤ 1000) (v : Value) :
    ∃ w', (Instr.mapUpdate 72 (.map (some b)) (.int .i64 s) v).run Try.prog w = .ok () w' ∧ MapV w' b (n + 1) (fun x => if x = s then v else f x) ∧ w.grownBy w' (some b) := by
  obtain ⟨D, h2, h3⟩ := h
  obtain ⟨w', hr, ho, hg⟩ := h2.update (val := v) (int_keyed Try.underlying3) under139 (by unfold maxLen; omega) (key3 hs) (d := .held v) (ps := []) rfl
  refine ⟨w', hr, ⟨_, ho, fun x hx => ?_⟩, hg⟩
  by_cases e : x = s
  · subst e
    have hkl : WideAt.IsKeyLit (Lit.int .i64 x) := by simp [WideAt.IsKeyLit]
    rw [Maps.atKey_put_same h2.isMap hkl]
    show DataW.held v = DataW.held (if x = x then v else f x)
    rw [if_pos rfl]
  · have hne : (Lit.int .i64 x) ≠ (Lit.int .i64 s) := fun h => e (by simpa using h)
    rw [Maps.atKey_put_other hne, h3 x hx]
    show DataW.held (f x) = DataW.held (if x = s then v else f x)
    rw [if_neg e]
end Go.Proofs
namespace Go.Proofs
open Go.RowKit Go.Shelf Go.Proofs.Ct Go.Maps
/-- a made list of numbers, the call's own -/
structure InvS (w : World) (g : Nat) (row : List Int) (wr : World) : Prop where
  blk : wr.heap[g]? = some (.cells (ints row).toArray 3 (0, 0))
  ge : w.heap.size ≤ g
  below : Below w.heap.size w wr
theorem InvS.at_ {w wr : World} {g : Nat} {row : List Int} (h : InvS w g row wr) {k : Nat} (hk : k < row.length) : wr.cell? ⟨g, k, none⟩ = some (.int .i64 (row.getD k 0)) := by
  rw [cell_of_row _ _ _ _ _ _ h.blk]
  simp [ints, List.getD_eq_getElem?_getD, hk]
theorem InvS.set {w wr : World} {g : Nat} {row : List Int} (h : InvS w g row wr) {k : Nat} (x : Int) : InvS w g (row.set k x) (wr.setCell ⟨g, k, none⟩ (.int .i64 x)) := by
  refine ⟨?_, h.ge, ?_⟩
  · rw [box_set h.blk]
    congr 2
    simp [ints, List.map_set]
  · have hsz : (wr.setCell ⟨g, k, none⟩ (.int .i64 x)).heap.size = wr.heap.size := by simp [World.setCell]
    exact ⟨h.below.os, h.below.tape, h.below.output, by rw [hsz]; exact h.below.size, fun q hq => (heap_setCell_other wr _ q _ (by have := h.ge; show q ≠ g; omega)).trans (h.below.block q hq)⟩
theorem InvS.intsAt {w wr : World} {g : Nat} {row : List Int} (h : InvS w g row wr) (hf : Fits row) (hl : row.length ≤ 1000) : IntsAt wr (.slice (some ⟨g, 0, none⟩) row.length row.length) row := by
  refine ⟨⟨_, _, _, rfl, by simp [ints], Nat.le_refl _, by unfold maxLen; omega, fun _ => ⟨g, 0, rfl, fun j v hj => ?_⟩⟩, hf⟩
  rw [Nat.zero_add, cell_of_row _ _ _ _ _ _ h.blk]
  simpa using hj
def rowA (d k : Nat) : List Int := (List.range d).map fun y => if y < k then -1 else 0
def rowB (a : List Nat) (d k : Nat) : List Int := (List.range d).map fun y => if a.idxOf y < k then ((a.idxOf y : Nat) : Int) else -1
theorem length_rowA (d k : Nat) : (rowA d k).length = d := by simp [rowA]
theorem length_rowB (a : List Nat) (d k : Nat) : (rowB a d k).length = d := by simp [rowB]
theorem rowA_set {d k : Nat} (_hk : k < d) : (rowA d k).set k (-1) = rowA d (k + 1) := by
  apply List.ext_getElem
  · simp [rowA]
  · intro i h1 h2
    simp only [rowA, List.getElem_set, List.getElem_map, List.getElem_range]
    split <;> (try split) <;> (try split) <;> omega
theorem rowB_set {a : List Nat} {d k : Nat} (ha : Prm d a) (hk : k < d) : (rowB a d k).set (a.getD k 0) (k : Int) = rowB a d (k + 1) := by
  apply List.ext_getElem
  · simp [rowB]
  · intro i h1 h2
    have hi : i < d := by simpa [rowB] using h2
    have hb := ha.back hi
    simp only [rowB, List.getElem_set, List.getElem_map, List.getElem_range]
    by_cases e : a.getD k 0 = i
    · rw [if_pos e]
      have : a.idxOf i = k := by rw [← e]; exact ha.back_get hk
      rw [this, if_pos (by omega)]
    · rw [if_neg e]
      have : a.idxOf i ≠ k := fun h => e (by rw [← h]; exact hb.2)
      split <;> split <;> omega
theorem rowA_rowB {a : List Nat} {d : Nat} : rowA d d = rowB a d 0 := by
  apply List.ext_getElem
  · simp [rowA, rowB]
  · intro i h1 h2
    have hi : i < d := by simpa [rowB] using h2
    simp [rowA, rowB, hi]
theorem rowB_full {a : List Nat} {d : Nat} (ha : Prm d a) : rowB a d d = nz ((List.range d).map a.idxOf) := by
  apply List.ext_getElem
  · simp [nz, rowB]
  · intro i h1 h2
    have hi : i < d := by simpa [rowB] using h1
    have hb := ha.back hi
    simp [nz, rowB, hb.1]
theorem rowB_at {a : List Nat} {d k : Nat} (ha : Prm d a) (hk : k < d) : (rowB a d k).getD (a.getD k 0) 0 = -1 := by
  have hx := ha.get_lt hk
  unfold rowB
  rw [List.getD_eq_getElem?_getD, List.getElem?_map, List.getElem?_range hx]
  simp only [Option.map_some, Option.getD_some]
  rw [ha.back_get hk, if_neg (by omega)]
theorem make81r (w : World) (n : Nat) (hn : n ≤ 8000000) : (Instr.makeSlice 40 (.int .i64 (n : Int)) (.int .i64 (n : Int))).run Try.prog w =
    .ok (.slice (some ⟨w.heap.size, 0, none⟩) n n) (w.alloc (.cells (Array.replicate n (.int .i64 0)) 3)) := by
  obtain ⟨i, hi, hz, hs, hb⟩ := info3p
  have := run_makeSlice (P := Try.prog) w 40 3 i (.int .i64 0) Try.underlying40 hi hz .i64 .i64 n n (by omega) (Int.le_refl _) (by rw [hs]; simp; omega) (by rw [hb]; omega) (by omega)
  rw [this, hs, Int.toNat_natCast, Nat.mul_one, made3]
theorem rowA_zero (d : Nat) : (ints (rowA d 0)).toArray = Array.replicate d (.int .i64 0) := by
  have : ints (rowA d 0) = List.replicate d (.int .i64 0) := by
    apply List.ext_getElem
    · simp [rowA, ints]
    · intro i h1 h2; simp [rowA, ints]
  rw [this, List.toArray_replicate]
theorem InvS.start (w : World) (d : Nat) : InvS w w.heap.size (rowA d 0) (w.alloc (.cells (Array.replicate d (.int .i64 0)) 3)) :=
  ⟨by rw [rowA_zero]; exact heap_alloc_new w _, Nat.le_refl _, (Below.refl _ _).alloc (Nat.le_refl _) _⟩
set_option maxRecDepth 100000 in
theorem inv113_any (w : World) (vl : Value) (a : List Nat) (d : Nat) (hd : 1 ≤ d ∧ d ≤ 6) (ha : Prm d a) (hl : IntsAt w vl (nz a)) :
    Calls Try.prog 33 #[vl, .int .i64 (d : Int)] w fun e w' => (∃ A c, e = .returned (.tuple #[.slice A d c, .bool true]) ∧ IntsAt w' (.slice A d c) (nz ((List.range d).map a.idxOf))) ∧ Below w.heap.size w w' := by
  obtain ⟨Al, cl, rfl, hl1, hl2, hcc⟩ := hl.open_
  rw [length_nz, ha.len] at hcc
  obtain ⟨bl, ol, rfl, hcell⟩ := hcc (by omega)
  have HC := Lib.hid hcell
  have HBL := Lib.hid (World.block_lt_of_cell? w _ (hcell 0 (by omega)))
  have HM := Lib.hid (make81r w d (by omega))
  have HS := Lib.hid (InvS.start w d)
  have HA := Lib.hid ha
  have eln := length_nz a
  rw [ha.len] at eln
  have hd0 : (1 : Int) ≤ (d : Int) := by omega
  have hd6 : (d : Int) ≤ 6 := by omega
  rw [eln]
  clear hl hcell hcc ha hl1 hl2 eln
  generalize w.alloc (.cells (Array.replicate d (.int .i64 0)) 3) = w1 at *
  go_enter Try.func33, Try.ntmps33
  have x0 := HM.out
  go_wp2_with fail
  go_loopw [18] (fun i wr => ∃ k : Nat, i = .int .i64 (k : Int) ∧ k ≤ d ∧ Hid (InvS w w.heap.size (rowA d k) wr)) (fun i _ => d - (intOf i).toNat)
  case atStart => exact ⟨0, rfl, Nat.zero_le _, HS⟩
  case round =>
    obtain ⟨k, rfl, hk, HR⟩ := hrel
    have hk0 : (0 : Int) ≤ (k : Int) := Int.natCast_nonneg _
    by_cases hkd : k < d
    · have hkd' : (k : Int) < (d : Int) := by omega
      have x1 := HR.out.at_ (k := k) (by rw [length_rowA]; exact hkd)
      have x2 := frozen_row HR.out.blk k
      have HN : Hid (InvS w w.heap.size (rowA d (k + 1)) (wr.setCell ⟨w.heap.size, k, none⟩ (.int .i64 (-1)))) := Lib.hid (by rw [← rowA_set hkd]; exact HR.out.set (-1))
      clear HR
      go_wp2_with fail
      go_roundw
      case rel => exact ⟨k + 1, by go_num, by omega, HN⟩
      case measure => simp [intOf]; omega
    · obtain rfl : d = k := by omega
      have HS2 : Hid (InvS w w.heap.size (rowB a d 0) wr) := Lib.hid (by rw [← rowA_rowB]; exact HR.out)
      clear HR HS
      go_wp2_with fail
      go_loopw [27] (fun i wr => ∃ k : Nat, i = .int .i64 (k : Int) ∧ k ≤ d ∧ Hid (InvS w w.heap.size (rowB a d k) wr)) (fun i _ => d - (intOf i).toNat)
      case atStart => exact ⟨0, rfl, Nat.zero_le _, HS2⟩
      case round =>
        obtain ⟨k, rfl, hk, HR⟩ := hrel
        have hk0 : (0 : Int) ≤ (k : Int) := Int.natCast_nonneg _
        by_cases hkd : k < d
        · have hkd' : (k : Int) < (d : Int) := by omega
          have x1 : wr.cell? ⟨bl, ol + k, none⟩ = some (.int .i64 ((nz a).getD k 0)) := (HR.out.below.cell (p := ⟨bl, ol + k, none⟩) HBL.out).trans (HC.out k hkd)
          rw [nz_getD] at x1
          have hxd := HA.out.get_lt hkd
          have x2 := HR.out.at_ (k := a.getD k 0) (by rw [length_rowB]; exact hxd)
          rw [rowB_at HA.out hkd] at x2
          have x3 := frozen_row HR.out.blk (a.getD k 0)
          have HN : Hid (InvS w w.heap.size (rowB a d (k + 1)) (wr.setCell ⟨w.heap.size, a.getD k 0, none⟩ (.int .i64 (k : Int)))) := Lib.hid (by rw [← rowB_set HA.out hkd]; exact HR.out.set (k : Int))
          clear HR
          generalize a.getD k 0 = x at *
          have hx0 : (0 : Int) ≤ (x : Int) := Int.natCast_nonneg _
          have hx1 : (x : Int) < (d : Int) := by omega
          go_wp2_with fail
          go_roundw
          case rel => exact ⟨k + 1, by go_num, by omega, HN⟩
          case measure => simp [intOf]; omega
        · obtain rfl : d = k := by omega
          have HF : Hid (IntsAt wr (.slice (some ⟨w.heap.size, 0, none⟩) d d) (nz ((List.range d).map a.idxOf)) ∧ Below w.heap.size w wr) := Lib.hid (by
            have h1 := HR.out
            rw [rowB_full HA.out] at h1
            have h2 := h1.intsAt (fits_nz fun x hx => by
              obtain ⟨y, hy, rfl⟩ := List.mem_map.1 hx
              have := (HA.out.back (List.mem_range.1 hy)).1
              omega) (by rw [length_nz]; simp; omega)
            have e : (nz ((List.range d).map a.idxOf)).length = d := by rw [length_nz]; simp
            rw [e] at h2
            exact ⟨h2, h1.below⟩)
          clear HR
          go_wp2_with fail
          go_ret2
          exact ⟨⟨_, _, rfl, HF.out.1⟩, HF.out.2⟩
end Go.Proofs
namespace Go.Proofs
open Go.RowKit Go.Shelf Go.Proofs.Ct Go.Maps
/-- a list of d numbers in memory, given by a function -/
def Col (w : World) (v : Value) (d : Nat) (f : Nat → Nat) : Prop := ∃ b o c, v = .slice (some ⟨b, o, none⟩) d c ∧ ∀ y, y < d → w.cell? ⟨b, o + y, none⟩ = some (.int .i64 ((f y : Nat) : Int))
theorem Col.below {w w' : World} {v : Value} {d : Nat} {f : Nat → Nat} (h : Col w v d f) (hb : Below w.heap.size w w') : Col w' v d f := by
  obtain ⟨b, o, c, rfl, hc⟩ := h
  exact ⟨b, o, c, rfl, fun y hy => (hb.cell (p := ⟨b, o + y, none⟩) (World.block_lt_of_cell? w _ (hc y hy))).trans (hc y hy)⟩
theorem Col.grown {w w' : World} {v : Value} {d n bp : Nat} {f : Nat → Nat} {g : Int → Value} (h : Col w v d f) (hm : MapV w bp n g) (hg : w.grownBy w' (some bp)) : Col w' v d f := by
  obtain ⟨b, o, c, rfl, hc⟩ := h
  refine ⟨b, o, c, rfl, fun y hy => hg.cell (hc y hy) fun e => ?_⟩
  have e2 : b = bp := Option.some.inj e
  obtain ⟨es, cl, hmo⟩ := hm.isMapObj
  have h1 := hc y hy
  simp [World.cell?, e2, hmo] at h1
theorem Col.ints {w : World} {v : Value} {d : Nat} {s : List Nat} {A : Option Addr} {c : Nat} (hv : v = .slice A d c) (h : IntsAt w v (nz s)) (hs : s.length = d) (hd : 1 ≤ d) : Col w v d (fun y => s.getD y 0) := by
  subst hv
  obtain ⟨A', c', e, -, -, hc⟩ := h.open_
  rw [length_nz, hs] at e hc
  obtain ⟨rfl, -, rfl⟩ := Value.slice.inj e
  obtain ⟨b, o, rfl, hcc⟩ := hc (by omega)
  exact ⟨b, o, c, rfl, fun y hy => by rw [← nz_getD]; exact hcc y hy⟩
theorem Col.congr {w : World} {v : Value} {d : Nat} {f g : Nat → Nat} (h : Col w v d f) (e : ∀ y, y < d → f y = g y) : Col w v d g := by
  obtain ⟨b, o, c, rfl, hc⟩ := h
  exact ⟨b, o, c, rfl, fun y hy => by rw [← e y hy]; exact hc y hy⟩
/-- the letters' lists that have been put -/
structure ActS (w : World) (bp : Nat) (a b : List Nat) (d k : Nat) (wr : World) : Prop where
  map : ∃ n f, n ≤ 2 * k ∧ MapV wr bp n f ∧ ∀ l : Int, l ≠ 0 → -(k : Int) ≤ l → l ≤ (k : Int) → Col wr (f l) d (fun y => act2 a b y (col l))
  ge : w.heap.size ≤ bp
  below : Below w.heap.size w wr
theorem ActS.start {w w1 : World} (hb : Below w.heap.size w w1) (a b : List Nat) (d : Nat) : ActS w w1.heap.size a b d 0 (w1.alloc (.map #[] 0)) :=
  ⟨⟨0, _, by omega, MapV.made w1, fun l h1 h2 h3 => absurd (by omega : l = 0) h1⟩, hb.size, hb.alloc hb.size _⟩
theorem ActS.put {w : World} {bp : Nat} {a b : List Nat} {d k : Nat} {wr w1 : World} {vL vI : Value} (h : ActS w bp a b d k wr) (hk : k < 2) (hb : Below wr.heap.size wr w1) (hL : Col w1 vL d (fun y => act2 a b y (col ((k : Int) + 1)))) (hI : Col w1 vI d (fun y => act2 a b y (col (-(k : Int) - 1)))) :
    ∃ w2 w3, (Instr.mapUpdate 72 (.map (some bp)) (.int .i64 ((k : Int) + 1)) vL).run Try.prog w1 = .ok () w2 ∧ (Instr.mapUpdate 72 (.map (some bp)) (.int .i64 (-(k : Int) - 1)) vI).run Try.prog w2 = .ok () w3 ∧ ActS w bp a b d (k + 1) w3 := by
  obtain ⟨n, f, hn, hm, hf⟩ := h.map
  have hm1 := hm.below hb
  obtain ⟨w2, hr2, hm2, hg2⟩ := hm1.put (s := (k : Int) + 1) ⟨by omega, by omega⟩ (by omega) vL
  obtain ⟨w3, hr3, hm3, hg3⟩ := hm2.put (s := -(k : Int) - 1) ⟨by omega, by omega⟩ (by omega) vI
  have hbw : Below w.heap.size w w1 := bl3T h.below hb
  refine ⟨w2, w3, hr2, hr3, ⟨_, _, by omega, hm3, fun l h1 h2 h3 => ?_⟩, h.ge, grown_below rfl (grown_below rfl hbw hg2 fun r hr => ?_) hg3 fun r hr => ?_⟩
  · show Col w3 (if l = -(k : Int) - 1 then vI else if l = (k : Int) + 1 then vL else f l) d _
    by_cases e1 : l = -(k : Int) - 1
    · rw [if_pos e1, e1]
      exact (hI.grown hm1 hg2).grown hm2 hg3
    · rw [if_neg e1]
      by_cases e2 : l = (k : Int) + 1
      · rw [if_pos e2, e2]
        exact (hL.grown hm1 hg2).grown hm2 hg3
      · rw [if_neg e2]
        exact (((hf l h1 (by omega) (by omega)).below hb).grown hm1 hg2).grown hm2 hg3
  · cases hr; exact h.ge
  · cases hr; exact h.ge
theorem ActS.look {w : World} {bp : Nat} {a b : List Nat} {d : Nat} {wr : World} (h : ActS w bp a b d 2 wr) {l : Int} (hl : -((2 : Nat) : Int) ≤ l ∧ l ≤ ((2 : Nat) : Int) ∧ l ≠ 0) {y : Nat} (hy : y < d) :
    ∃ b' o' c', (Instr.lookup 72 (.map (some bp)) (.int .i64 l) false).run Try.prog wr = .ok (.slice (some ⟨b', o', none⟩) d c') wr ∧ wr.cell? ⟨b', o' + y, none⟩ = some (.int .i64 ((act2 a b y (col l) : Nat) : Int)) := by
  obtain ⟨n, f, hn, hm, hf⟩ := h.map
  obtain ⟨h1, h2, h3⟩ := hl
  obtain ⟨b', o', c', e, hc⟩ := hf l h3 h1 h2
  have := hm.look (s := l) ⟨by omega, by omega⟩
  rw [e] at this
  exact ⟨b', o', c', this, hc y hy⟩
theorem Two.rows {w : World} {vm : Value} {a b : List Nat} {d : Nat} (h : Two w vm a b) (ha : Prm d a) (hb : Prm d b) (hd : 1 ≤ d) : ∃ bm om cm, vm = .slice (some ⟨bm, om, none⟩) 2 cm ∧ ∀ q, q < 2 → ∃ bq oq cq, w.cell? ⟨bm, om + q, none⟩ = some (.slice (some ⟨bq, oq, none⟩) d cq) ∧ IntsAt w (.slice (some ⟨bq, oq, none⟩) d cq) (nz (row2 a b q)) := by
  obtain ⟨A, c, rfl, -, -, hc⟩ := LAt.open_ h
  obtain ⟨bm, om, rfl, hr⟩ := hc (by simp)
  refine ⟨bm, om, c, rfl, fun q hq => ?_⟩
  obtain ⟨u, hu, hi⟩ := hr q (by simpa using hq)
  have e : ([nz a, nz b] : List (List Int)).getD q [] = nz (row2 a b q) := by
    have : q = 0 ∨ q = 1 := by omega
    rcases this with rfl | rfl <;> rfl
  rw [e] at hi
  obtain ⟨A', c', rfl, -, -, hc'⟩ := hi.open_
  rw [length_nz, (row2_prm ha hb).len] at hc' hu hi
  obtain ⟨b', o', rfl, hcc⟩ := hc' (by omega)
  exact ⟨b', o', c', hu, hi⟩
end Go.Proofs
namespace Go.Proofs.Tz
open Go.Proofs.Ct (W red inv mulW invW opp foldTo)
def cmpI (x y : Int) : Int := if x < y then -1 else if y < x then 1 else 0
/-- letters by their sizes, the generator ahead of its inverse -/
def key (x : Int) : Int := 2 * (x.natAbs : Int) + (if x < 0 then 1 else 0)
theorem key_inj {x y : Int} (h : key x = key y) : x = y := by
  unfold key at h
  split at h <;> split at h <;> omega
def befI (x y : Int) : Int := if cmpI x.natAbs y.natAbs ≠ 0 then cmpI x.natAbs y.natAbs else cmpI y x
theorem befI_key (x y : Int) : befI x y = cmpI (key x) (key y) := by
  unfold befI cmpI key
  by_cases h1 : x < 0 <;> by_cases h2 : y < 0 <;> simp only [h1, h2, if_true, if_false]
  all_goals
    split <;> (repeat' split at *) <;> omega
def cmpL : W → W → Int
  | [], [] => 0
  | [], _ :: _ => -1
  | _ :: _, [] => 1
  | x :: a, y :: b => if befI x y ≠ 0 then befI x y else cmpL a b
def cmpW (a b : W) : Int := if cmpI (a.length : Int) (b.length : Int) ≠ 0 then cmpI (a.length : Int) (b.length : Int) else cmpL a b
theorem cmpI_zero {x y : Int} : cmpI x y = 0 ↔ x = y := by unfold cmpI; split <;> (try split) <;> omega
theorem cmpI_neg {x y : Int} : cmpI x y < 0 ↔ x < y := by unfold cmpI; split <;> (try split) <;> omega
theorem cmpI_swap (x y : Int) : cmpI y x = -cmpI x y := by unfold cmpI; split <;> split <;> (try split) <;> omega
theorem cmpL_zero : ∀ {a b : W}, cmpL a b = 0 ↔ a = b
  | [], [] => by simp [cmpL]
  | [], _ :: _ => by simp [cmpL]
  | _ :: _, [] => by simp [cmpL]
  | x :: a, y :: b => by
    have ih := cmpL_zero (a := a) (b := b)
    unfold cmpL
    rw [befI_key]
    constructor
    · intro h
      split at h
      · contradiction
      · rename_i h1
        have h2 := key_inj (x := x) (y := y) (cmpI_zero.1 (by omega))
        rw [h2, ih.1 h]
    · intro h
      injection h with h1 h2
      subst h1 h2
      rw [if_neg (by simp [cmpI_zero])]
      exact ih.2 rfl
theorem cmpL_swap : ∀ (a b : W), cmpL b a = -cmpL a b
  | [], [] => rfl
  | [], _ :: _ => rfl
  | _ :: _, [] => rfl
  | x :: a, y :: b => by
    unfold cmpL
    rw [befI_key, befI_key, cmpI_swap (key x) (key y), cmpL_swap a b]
    split <;> split <;> omega
theorem cmpL_trans : ∀ {a b c : W}, cmpL a b < 0 → cmpL b c < 0 → cmpL a c < 0
  | [], [], _, h, _ => by simp [cmpL] at h
  | [], _ :: _, [], _, h => by simp [cmpL] at h
  | [], _ :: _, _ :: _, _, _ => by simp [cmpL]
  | _ :: _, [], _, h, _ => by simp [cmpL] at h
  | _ :: _, _ :: _, [], _, h => by simp [cmpL] at h
  | x :: a, y :: b, z :: c, h1, h2 => by
    have ih := cmpL_trans (a := a) (b := b) (c := c)
    unfold cmpL at h1 h2 ⊢
    rw [befI_key] at h1 h2 ⊢
    have e1 := cmpI_neg (x := key x) (y := key y)
    have e2 := cmpI_neg (x := key y) (y := key z)
    have e3 := cmpI_neg (x := key x) (y := key z)
    have z1 := cmpI_zero (x := key x) (y := key y)
    have z2 := cmpI_zero (x := key y) (y := key z)
    have z3 := cmpI_zero (x := key x) (y := key z)
    split at h1
    · split at h2
      · rw [if_pos (by omega)]; omega
      · rw [if_pos (by omega)]; omega
    · split at h2
      · rw [if_pos (by omega)]; omega
      · rw [if_neg (by omega)]; exact ih h1 h2
theorem cmpW_zero {a b : W} : cmpW a b = 0 ↔ a = b := by
  unfold cmpW
  split
  · rename_i h
    exact ⟨fun e => absurd e h, fun e => absurd (by rw [e]; exact cmpI_zero.2 rfl) h⟩
  · exact cmpL_zero
theorem cmpW_swap (a b : W) : cmpW b a = -cmpW a b := by
  unfold cmpW
  rw [cmpI_swap (a.length : Int), cmpL_swap a b]
  split <;> split <;> omega
theorem cmpW_trans {a b c : W} (h1 : cmpW a b < 0) (h2 : cmpW b c < 0) : cmpW a c < 0 := by
  unfold cmpW at *
  have e1 := cmpI_neg (x := (a.length : Int)) (y := b.length)
  have e2 := cmpI_neg (x := (b.length : Int)) (y := c.length)
  have e3 := cmpI_neg (x := (a.length : Int)) (y := c.length)
  have z1 := cmpI_zero (x := (a.length : Int)) (y := b.length)
  have z2 := cmpI_zero (x := (b.length : Int)) (y := c.length)
  have z3 := cmpI_zero (x := (a.length : Int)) (y := c.length)
  split at h1
  · split at h2
    · rw [if_pos (by omega)]; omega
    · rw [if_pos (by omega)]; omega
  · split at h2
    · rw [if_pos (by omega)]; omega
    · rw [if_neg (by omega)]; exact cmpL_trans h1 h2
/-- strictly ascending -/
def Asc (l : List W) : Prop := l.Pairwise fun a b => cmpW a b < 0
theorem Asc.ext : ∀ {l m : List W}, Asc l → Asc m → (∀ x, x ∈ l ↔ x ∈ m) → l = m
  | [], [], _, _, _ => rfl
  | [], y :: m, _, _, h => absurd ((h y).2 (List.mem_cons_self ..)) List.not_mem_nil
  | x :: l, [], _, _, h => absurd ((h x).1 (List.mem_cons_self ..)) List.not_mem_nil
  | x :: l, y :: m, hl, hm, h => by
    obtain ⟨h1, h2⟩ := List.pairwise_cons.1 hl
    obtain ⟨h3, h4⟩ := List.pairwise_cons.1 hm
    have nn : ∀ {a b : W}, cmpW a b < 0 → cmpW b a < 0 → False := fun {a b} p q => by have := cmpW_swap a b; omega
    have irr : ∀ a : W, ¬ cmpW a a < 0 := fun a p => nn p p
    have hxy : x = y := by
      rcases List.mem_cons.1 ((h x).1 (List.mem_cons_self ..)) with e | e
      · exact e
      · rcases List.mem_cons.1 ((h y).2 (List.mem_cons_self ..)) with f | f
        · exact f.symm
        · exact (nn (h3 x e) (h1 y f)).elim
    subst hxy
    congr 1
    refine Asc.ext h2 h4 fun z => ⟨fun hz => ?_, fun hz => ?_⟩
    · rcases List.mem_cons.1 ((h z).1 (List.mem_cons_of_mem _ hz)) with e | e
      · subst e; exact absurd (h1 z hz) (irr z)
      · exact e
    · rcases List.mem_cons.1 ((h z).2 (List.mem_cons_of_mem _ hz)) with e | e
      · subst e; exact absurd (h3 z hz) (irr z)
      · exact e
/-- a word is set into an ascending list, unless it is there -/
def ins (w : W) : List W → List W
  | [] => [w]
  | x :: l => if cmpW x w < 0 then x :: ins w l else if x = w then x :: l else w :: x :: l
theorem mem_ins {w z : W} : ∀ {l : List W}, z ∈ ins w l ↔ z = w ∨ z ∈ l
  | [] => by simp [ins]
  | x :: l => by
    have ih := mem_ins (w := w) (z := z) (l := l)
    unfold ins
    split
    · rw [List.mem_cons, ih, List.mem_cons]
      exact ⟨fun h => by rcases h with h | h | h <;> simp [h], fun h => by rcases h with h | h | h <;> simp [h]⟩
    · split
      · rename_i e
        subst e
        simp
      · simp
theorem asc_ins {w : W} : ∀ {l : List W}, Asc l → Asc (ins w l)
  | [], _ => List.pairwise_singleton ..
  | x :: l, h => by
    obtain ⟨h1, h2⟩ := List.pairwise_cons.1 h
    unfold ins
    split
    · rename_i hx
      refine List.pairwise_cons.2 ⟨fun z hz => ?_, asc_ins h2⟩
      rcases mem_ins.1 hz with e | e
      · rw [e]; exact hx
      · exact h1 z e
    · split
      · exact h
      · rename_i hx hne
        have hwx : cmpW w x < 0 := by
          have := cmpW_swap w x
          have h0 : cmpW w x ≠ 0 := fun e => hne (cmpW_zero.1 e).symm
          omega
        refine List.pairwise_cons.2 ⟨fun z hz => ?_, h⟩
        rcases List.mem_cons.1 hz with e | e
        · rw [e]; exact hwx
        · exact cmpW_trans hwx (h1 z e)
/-- the cyclically reduced core of a reduced word -/
def cycTo : Nat → W → W
  | 0, w => w
  | n + 1, w => if 1 < w.length ∧ opp (w.getD 0 0) (w.getD (w.length - 1) 0) = true then cycTo n ((w.drop 1).take (w.length - 2)) else w
def cyc (w : W) : W := cycTo w.length (red w)
def rot (w : W) (k : Nat) : W := w.drop k ++ w.take k
def bestTo (v b : W) (k : Nat) : W := foldTo (fun k b => if cmpW (rot v k) b < 0 then rot v k else b) k b
def leastZ (v : W) : W := bestTo (invW v) (bestTo v v v.length) (invW v).length
/-- the least conjugate -/
def leastW (w : W) : W := leastZ (cyc w)
/-- the clean relators of the first k -/
def cleanTo (rels : List W) (k : Nat) : List W := foldTo (fun k out => if leastW (rels.getD k []) = [] then out else ins (leastW (rels.getD k [])) out) k []
def cleanL (rels : List W) : List W := cleanTo rels rels.length
def leastsTo (rels : List W) (k : Nat) : List W := foldTo (fun k out => if leastW (rels.getD k []) = [] then out else out ++ [leastW (rels.getD k [])]) k []
theorem asc_clean (rels : List W) : ∀ k, Asc (cleanTo rels k)
  | 0 => List.Pairwise.nil
  | k + 1 => by
    show Asc (if leastW (rels.getD k []) = [] then cleanTo rels k else ins (leastW (rels.getD k [])) (cleanTo rels k))
    split
    · exact asc_clean rels k
    · exact asc_ins (asc_clean rels k)
theorem mem_clean (rels : List W) (z : W) : ∀ k, z ∈ cleanTo rels k ↔ z ∈ leastsTo rels k
  | 0 => Iff.rfl
  | k + 1 => by
    have ih := mem_clean rels z k
    show z ∈ (if leastW (rels.getD k []) = [] then cleanTo rels k else ins (leastW (rels.getD k [])) (cleanTo rels k)) ↔ z ∈ (if leastW (rels.getD k []) = [] then leastsTo rels k else leastsTo rels k ++ [leastW (rels.getD k [])])
    split
    · exact ih
    · rw [mem_ins, ih, List.mem_append, List.mem_singleton, or_comm]
/-- equal neighbours are struck out -/
def compactL : List W → List W
  | [] => []
  | [x] => [x]
  | x :: y :: l => if x = y then compactL (y :: l) else x :: compactL (y :: l)
theorem mem_compact {z : W} : ∀ {l : List W}, z ∈ compactL l ↔ z ∈ l
  | [] => Iff.rfl
  | [x] => Iff.rfl
  | x :: y :: l => by
    have ih := mem_compact (z := z) (l := y :: l)
    unfold compactL
    split
    · rename_i e
      subst e
      rw [ih]; simp
    · rw [List.mem_cons, ih, List.mem_cons (a := z) (b := x)]
theorem asc_compact : ∀ {l : List W}, (l.Pairwise fun a b => ¬ cmpW b a < 0) → Asc (compactL l)
  | [], _ => List.Pairwise.nil
  | [x], _ => List.pairwise_singleton ..
  | x :: y :: l, h => by
    obtain ⟨h1, h2⟩ := List.pairwise_cons.1 h
    have ih := asc_compact h2
    unfold compactL
    split
    · exact ih
    · rename_i hne
      refine List.pairwise_cons.2 ⟨fun z hz => ?_, ih⟩
      have hz' := mem_compact.1 hz
      have hxy : cmpW x y < 0 := by
        have h3 := h1 y (List.mem_cons_self ..)
        have := cmpW_swap x y
        have h0 : cmpW x y ≠ 0 := fun e => hne (cmpW_zero.1 e)
        omega
      rcases List.mem_cons.1 hz' with e | e
      · rw [e]; exact hxy
      · have h4 := (List.pairwise_cons.1 h2).1 z e
        have := cmpW_swap y z
        rcases Int.lt_or_eq_of_le (show cmpW y z ≤ 0 by omega) with q | q
        · exact cmpW_trans hxy q
        · rw [← cmpW_zero.1 q]; exact hxy
/-- what is sorted and struck out is what is set in one by one -/
theorem clean_of_sorted {rels l : List W} (hp : l.Perm (leastsTo rels rels.length)) (hs : l.Pairwise fun a b => ¬ cmpW b a < 0) : compactL l = cleanL rels :=
  Asc.ext (asc_compact hs) (asc_clean rels _) fun x => by rw [mem_compact, hp.mem_iff]; exact (mem_clean rels x _).symm
end Go.Proofs.Tz
