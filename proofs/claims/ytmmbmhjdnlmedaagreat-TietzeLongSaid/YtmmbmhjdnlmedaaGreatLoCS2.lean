/- Equality of tables and words; a copy by append; slices.Clone; letter; Words and Schreier systems, plainly; word.Reduce and cayleyref02.Reduce; cayleyref02.Reduce; coset.Standard; cayleyref18.Standard; Appending a readable list; slices.Concat; word.Invert, Mul and cayleyref02.Invert, Mul. -/
import Derived.Test.YtmmbmhjdnlmedaaGreatLoCS1
import Derived.WalkMore
namespace Go.Proofs
open Go.RowKit Go.Shelf Go.Proofs.Ct
set_option maxRecDepth 100000 in
set_option maxHeartbeats 400000 in
theorem same18_any (w : World) (va vb : Value) (A B : List (List Int)) (ha : Tab w va A) (hb : Tab w vb B) :
    Calls Tryz.prog 47 #[va, vb] w fun e w' => e = .returned (.bool (decide (A = B))) ∧ ∃ q, w' = w.drewN q := by
  obtain ⟨A0, ca, rfl, ha1, ha2, ha3⟩ := ha.open_
  obtain ⟨B0, cb, rfl, hb1, hb2, hb3⟩ := hb.open_
  have HA := Lib.hid ha3
  have HB := Lib.hid hb3
  clear ha hb ha3 hb3
  by_cases hl : A.length = B.length
  · have d1 : ((A.length : Int) != (B.length : Int)) = false := by simp; omega
    have d2 : (A.length != B.length) = false := by simp; omega
    have HL := Lib.hid hl
    clear hl
    go_enter Tryz.func47, Tryz.ntmps47
    go_wp2_with fail
    go_loopw [5] (fun i wr => ∃ k : Nat, k ≤ A.length ∧ i = .int .i64 k ∧ (∀ j, j < k → A.getD j [] = B.getD j []) ∧ ∃ q, wr = w.drewN q) (fun i _ => A.length - (intOf i).toNat)
    case atStart => exact ⟨0, Nat.zero_le _, rfl, fun j hj => absurd hj (by omega), 0, rfl⟩
    case round =>
      obtain ⟨k, hk, rfl, hz, q, rfl⟩ := hrel
      have HZ := Lib.hid hz
      clear hz
      by_cases hlt : k < A.length
      · obtain ⟨b1, o1, rfl, hc1⟩ := HA.out (by omega)
        obtain ⟨b2, o2, rfl, hc2⟩ := HB.out (by rw [← HL.out]; omega)
        obtain ⟨u1, hu1, hr1⟩ := hc1 k hlt
        obtain ⟨u2, hu2, hr2⟩ := hc2 k (by rw [← HL.out]; omega)
        obtain ⟨A3, c3, rfl, hd1, hd2, hd⟩ := hr1.open_
        obtain ⟨A4, c4, rfl, he1, he2, he⟩ := hr2.open_
        have hk0 : (0 : Int) ≤ (k : Int) := Int.natCast_nonneg _
        have hkb : (k : Int) < (B.length : Int) := by rw [← HL.out]; omega
        have hka : (k : Int) < (A.length : Int) := by omega
        have HN := Lib.hid (fun h => getD_ne (A := A) (B := B) (d := []) (k := k) h)
        generalize hxe : A.getD k [] = x at *
        generalize hye : B.getD k [] = y at *
        have HXE := Lib.hid hxe
        have HYE := Lib.hid hye
        clear hxe hye
        have HD := Lib.hid hd
        have HE := Lib.hid he
        clear hc1 hc2 hr1 hr2 hd he
        by_cases hxy : x.length = y.length
        · have d3 : ((x.length : Int) != (y.length : Int)) = false := by simp; omega
          have d4 : (x.length != y.length) = false := by simp; omega
          have HX := Lib.hid hxy
          clear hxy
          go_wp2_with fail
          go_quiet (fail)
          go_wp2_with fail
          go_loopw [6] (fun i wr => ∃ j : Nat, j ≤ x.length ∧ i = .int .i64 j ∧ (∀ t, t < j → x.getD t 0 = y.getD t 0) ∧ ∃ q, wr = w.drewN q) (fun i _ => x.length - (intOf i).toNat)
          case atStart => exact ⟨0, Nat.zero_le _, rfl, fun j hj => absurd hj (by omega), (by first | exact ⟨_, rfl⟩ | exact ex_drewN)⟩
          case round =>
            obtain ⟨j, hj, rfl, hzj, qj, rfl⟩ := hrel
            have HZJ := Lib.hid hzj
            clear hzj
            by_cases hjl : j < x.length
            · obtain ⟨b3, o3, rfl, hx⟩ := HD.out (by omega)
              obtain ⟨b4, o4, rfl, hy⟩ := HE.out (by rw [← HX.out]; omega)
              have hx1 := hx j hjl
              have hy1 := hy j (by rw [← HX.out]; omega)
              have hj0 : (0 : Int) ≤ (j : Int) := Int.natCast_nonneg _
              have hjb : (j : Int) < (y.length : Int) := by rw [← HX.out]; omega
              have hja : (j : Int) < (x.length : Int) := by omega
              have HM := Lib.hid (fun h => getD_ne (A := x) (B := y) (d := 0) (k := j) h)
              clear hx hy
              generalize hse : x.getD j 0 = s at *
              generalize hte : y.getD j 0 = t at *
              have HSE := Lib.hid hse
              have HTE := Lib.hid hte
              clear hse hte
              by_cases hst : s = t
              · have d5 : (s != t) = false := by simpa using hst
                have HS := Lib.hid hst
                clear hst
                go_wp2_with fail
                go_quiet (fail)
                go_wp2_with fail
                go_roundw
                case rel => exact ⟨j + 1, by omega, by go_num, all_succ HZJ.out (by rw [HSE.out, HTE.out]; exact HS.out), (by first | exact ⟨_, rfl⟩ | exact ex_drewN)⟩
                case measure => simp [intOf]; omega
              · have d5 : (s != t) = true := by simpa using hst
                have HS := Lib.hid hst
                clear hst
                go_wp2_with fail
                go_quiet (fail)
                go_wp2_with fail
                go_ret
                exact ⟨ret_bool (by simpa using HN.out (HM.out HS.out)), (by first | exact ⟨_, rfl⟩ | exact ex_drewN)⟩
            · obtain rfl : j = x.length := by omega
              go_wp2_with fail
              go_roundw
              case rel => exact ⟨k + 1, by omega, by go_num, all_succ HZ.out (by rw [HXE.out, HYE.out]; exact getD_ext HX.out HZJ.out), _, rfl⟩
              case measure => simp [intOf]; omega
        · have d3 : ((x.length : Int) != (y.length : Int)) = true := by simp; omega
          have d4 : (x.length != y.length) = true := by simp; omega
          have HX := Lib.hid hxy
          clear hxy
          go_wp2_with fail
          go_quiet (fail)
          go_wp2_with fail
          go_ret
          exact ⟨ret_bool (by simpa using HN.out (fun e => HX.out (by rw [e]))), (by first | exact ⟨_, rfl⟩ | exact ex_drewN)⟩
      · obtain rfl : k = A.length := by omega
        go_wp2_with fail
        go_ret
        exact ⟨ret_bool (by simpa using getD_ext HL.out HZ.out), _, rfl⟩
  · have d1 : ((A.length : Int) != (B.length : Int)) = true := by simp; omega
    have d2 : (A.length != B.length) = true := by simp; omega
    have HL := Lib.hid hl
    clear hl
    go_enter Tryz.func47, Tryz.ntmps47
    go_wp2_with fail
    go_ret
    exact ⟨ret_bool (by simpa using fun e => HL.out (by rw [e])), 0, rfl⟩
set_option maxRecDepth 100000 in
set_option maxHeartbeats 400000 in
theorem equal143_any (w : World) (va vb : Value) (x y : List Int) (ha : IntsAt w va x) (hb : IntsAt w vb y) :
    Calls Tryz.prog 99 #[va, vb] w fun e w' => e = .returned (.bool (decide (x = y))) ∧ ∃ q, w' = w.drewN q := by
  obtain ⟨A3, c3, rfl, hd1, hd2, hd⟩ := ha.open_
  obtain ⟨A4, c4, rfl, he1, he2, he⟩ := hb.open_
  have HD := Lib.hid hd
  have HE := Lib.hid he
  clear ha hb hd he
  have HN := Lib.hid (fun (h : x.length ≠ y.length) (e : x = y) => h (by rw [e]))
  by_cases hxy : x.length = y.length
  · have d3 : ((x.length : Int) != (y.length : Int)) = false := by simp; omega
    have d4 : (x.length != y.length) = false := by simp; omega
    have HX := Lib.hid hxy
    clear hxy
    go_enter Tryz.func99, Tryz.ntmps99
    go_wp2_with fail
    go_loopw [5, 13] (fun _ i wr => ∃ j : Nat, j ≤ x.length ∧ i = .int .i64 j ∧ (∀ t, t < j → x.getD t 0 = y.getD t 0) ∧ ∃ q, wr = w.drewN q) (fun _ i _ => x.length - (intOf i).toNat)
    case atStart => exact ⟨0, Nat.zero_le _, rfl, fun j hj => absurd hj (by omega), 0, rfl⟩
    case round =>
      obtain ⟨j, hj, rfl, hzj, qj, rfl⟩ := hrel
      have HZJ := Lib.hid hzj
      clear hzj
      by_cases hjl : j < x.length
      · obtain ⟨b3, o3, rfl, hx⟩ := HD.out (by omega)
        obtain ⟨b4, o4, rfl, hy⟩ := HE.out (by rw [← HX.out]; omega)
        have hx1 := hx j hjl
        have hy1 := hy j (by rw [← HX.out]; omega)
        have hj0 : (0 : Int) ≤ (j : Int) := Int.natCast_nonneg _
        have hjb : (j : Int) < (y.length : Int) := by rw [← HX.out]; omega
        have hja : (j : Int) < (x.length : Int) := by omega
        have HM := Lib.hid (fun h => getD_ne (A := x) (B := y) (d := 0) (k := j) h)
        clear hx hy
        generalize hse : x.getD j 0 = s at *
        generalize hte : y.getD j 0 = t at *
        have HSE := Lib.hid hse
        have HTE := Lib.hid hte
        clear hse hte
        by_cases hst : s = t
        · have d5 : (s != t) = false := by simpa using hst
          have HS := Lib.hid hst
          clear hst
          go_wp2_with fail
          go_quiet (fail)
          go_wp2_with fail
          go_roundw
          case rel => exact ⟨j + 1, by omega, by go_num, all_succ HZJ.out (by rw [HSE.out, HTE.out]; exact HS.out), (by first | exact ⟨_, rfl⟩ | exact ex_drewN)⟩
          case measure => simp [intOf]; omega
        · have d5 : (s != t) = true := by simpa using hst
          have HS := Lib.hid hst
          clear hst
          go_wp2_with fail
          go_quiet (fail)
          go_wp2_with fail
          go_ret
          exact ⟨ret_bool (by simpa using HM.out HS.out), (by first | exact ⟨_, rfl⟩ | exact ex_drewN)⟩
      · obtain rfl : j = x.length := by omega
        go_wp2_with fail
        go_ret
        exact ⟨ret_bool (by simpa using getD_ext HX.out HZJ.out), (by first | exact ⟨_, rfl⟩ | exact ex_drewN)⟩
  · have d3 : ((x.length : Int) != (y.length : Int)) = true := by simp; omega
    have d4 : (x.length != y.length) = true := by simp; omega
    have HX := Lib.hid hxy
    clear hxy
    go_enter Tryz.func99, Tryz.ntmps99
    go_wp2_with fail
    go_ret
    exact ⟨ret_bool (by simpa using HN.out HX.out), 0, rfl⟩
theorem src_ints {t : TypeId} (ht : Tryz.prog.underlying t = some (.slice 3)) {w : World} {v : Value} {y : List Int} (h : IntsAt w v y) : Src Tryz.prog 1 t v y.length (ints y) w := by
  obtain ⟨⟨A, n, cap, rfl, hn, hc, hm, hr⟩, -⟩ := h
  have hl : n = y.length := by simpa [ints] using hn
  subst hl
  rcases Nat.eq_zero_or_pos y.length with h0 | h0
  · obtain rfl : y = [] := List.length_eq_zero_iff.1 h0
    cases A with
    | none => exact Src.ofNil w ht cap
    | some a => exact Src.ofSlice w ht a 0 cap [] rfl (fun j u hu => by simp at hu) (fun u hu => by cases hu)
  · obtain ⟨b, off, rfl, hrow⟩ := hr h0
    exact Src.ofSlice w ht _ _ cap (ints y) (by simp [ints]) (fun j u hu => by rw [Addr.add_lit]; exact hrow j u hu) (fun u hu => by obtain ⟨x, -, rfl⟩ := List.mem_map.1 hu; rfl)
/-- append([]int{}, y...): the copy lies in a block of its own -/
theorem run_copy {t : TypeId} (ht : Tryz.prog.underlying t = some (.slice 3)) {w : World} {v : Value} {y : List Int} (h : IntsAt w v y) (hl : y.length ≤ 9000000) :
    ∃ A cap w', (Builtin.append_ #[t, t] t #[.slice (some ⟨w.heap.size, 0, none⟩) 0 0, v]).run Tryz.prog (w.alloc (.cells #[] 3)) = .ok (.slice A y.length cap) w' ∧
      Below w.heap.size w w' ∧ OwnI w.heap.size w' (.slice A y.length cap) y := by
  obtain ⟨i, hi, hz, hs, hby⟩ := info3p
  have hal : Below w.heap.size w (w.alloc (.cells #[] 3)) := (Below.refl _ _).alloc (Nat.le_refl _) _
  have hnew := heap_alloc_new w (.cells #[] 3)
  have hsz : (w.alloc (.cells #[] 3)).heap.size = w.heap.size + 1 := by simp
  have hsrc := src_ints ht (h.below hal)
  generalize w.alloc (.cells #[] 3) = W at *
  rcases Nat.eq_zero_or_pos y.length with h0 | h0
  · obtain rfl : y = [] := List.length_eq_zero_iff.1 h0
    have := run_append_room_src (P := Tryz.prog) W t t t 3 i ht hi w.heap.size 0 0 0 v 0 [] (by rw [hs]; exact hsrc) (Nat.le_refl _) (fun j hj => absurd hj (by simp)) (fun j hj => absurd hj (by simp))
    exact ⟨_, 0, W, this, hal, rfl, .inr ⟨w.heap.size, 0, #[], rfl, Nat.le_refl _, hnew, Nat.le_refl _, by simp, rfl, rfl⟩⟩
  · have hold : (Builtin.firstCells i.size 0 (.slice (some ⟨w.heap.size, 0, none⟩) 0 0)).run Tryz.prog W.drew = .ok ([] : List Value).toArray W.drew := by
      rw [hs]
      exact run_firstCells_some W.drew 1 0 ⟨w.heap.size, 0, none⟩ 0 0 [] rfl (fun j u hu => by simp at hu)
    have hg := run_append_grow_src (P := Tryz.prog) W t t t 3 i (.int .i64 0) ht hi hz (some ⟨w.heap.size, 0, none⟩) 0 0 [] hold v y.length (ints y) (by rw [hs]; exact hsrc) (by omega) (by omega) (growslice_fits (by omega) (by rw [hby]; omega))
    simp only [Nat.zero_add, List.nil_append] at hg
    have hcm := grownCap_le_maxLen W y.length 0 3 (by unfold maxLen; omega)
    have hcg := grownCap_ge W y.length 0 3
    refine ⟨_, _, _, hg, hal.trans ⟨rfl, rfl, rfl, by simp, fun k hk => (Below.heap_alloc W.drew _ k (by show k < W.heap.size; omega))⟩, by simp [ints], .inr ⟨W.heap.size, _, _, rfl, by omega, heap_alloc_new W.drew _, hcg, hcm, ?_, ?_⟩⟩
    · simp [ints, size_zeroCells, Value.cells]
      omega
    · simp [ints]
theorem eqnil_none (w : World) (n c : Nat) : (binOp .eql 36 (.slice none n c) (.slice none 0 0)).run Tryz.prog w = .ok (.bool true) w := by kernel_rfl
theorem eqnil_some (w : World) (a : Addr) (n c : Nat) : (binOp .eql 36 (.slice (some a) n c) (.slice none 0 0)).run Tryz.prog w = .ok (.bool false) w := by kernel_rfl
set_option maxRecDepth 100000 in
theorem clone71_any (w : World) (v : Value) (xs : List Int) (h : IntsAt w v xs) (hl : xs.length ≤ 9000000) :
    Calls Tryz.prog 69 #[v] w fun e w' => ∃ A c, e = .returned (.slice A xs.length c) ∧ OwnI w.heap.size w' (.slice A xs.length c) xs ∧ Below w.heap.size w w' := by
  obtain ⟨A0, c0, w', hr, hb, ho⟩ := run_copy Tryz.underlying36 h hl
  have HR := Lib.hid hr
  have HB := Lib.hid hb
  have HO := Lib.hid ho
  obtain ⟨A, cap, rfl, hcap, hmax, hc⟩ := h.open_
  cases A with
  | none =>
    have h0 : xs = [] := by
      rcases Nat.eq_zero_or_pos xs.length with h0 | h0
      · exact List.length_eq_zero_iff.1 h0
      · obtain ⟨b, off, hx, -⟩ := hc h0
        cases hx
    clear hr hb ho hc h HR HB HO
    subst h0
    have hq := eqnil_none w
    go_enter Tryz.func69, Tryz.ntmps69
    go_wp2_with fail
    go_ret
    exact ⟨none, 0, rfl, World.ownsRow_nil _ _ _ _, Below.refl _ _⟩
  | some a =>
    clear hr hb ho hc h
    have hq := eqnil_some w
    go_enter Tryz.func69, Tryz.ntmps69
    go_wp2_with ((with_reducible refine wpList_sel 7 ?_); refine wpList_val rfl (r_app (.tmp 5) (.tmp 6) 36 rfl rfl rfl HR.out) ?_)
    go_ret
    exact ⟨_, _, rfl, HO.out, HB.out⟩
end Go.Proofs
namespace Go.Proofs.Ct
def opp (x y : Int) : Bool := decide (x ≠ 0) && decide (y = -x)
def push (st : W) (x : Int) : W := if decide (0 < st.length) && opp (st.getD (st.length - 1) 0) x then st.take (st.length - 1) else st ++ [x]
def redTo (w : W) (k : Nat) : W := foldTo (fun k st => push st (w.getD k 0)) k []
def red (w : W) : W := redTo w w.length
def inv (w : W) : W := w.reverse.map fun x => -x
def mulW (a b : W) : W := red (a ++ b)
def invW (a : W) : W := red (inv a)
theorem push_mem {st : W} {x y : Int} (h : y ∈ push st x) : y ∈ st ∨ y = x := by
  unfold push at h
  split at h
  · exact .inl (List.mem_of_mem_take h)
  · simpa using h
theorem redTo_mem {w : W} : ∀ {k : Nat}, k ≤ w.length → ∀ {y : Int}, y ∈ redTo w k → y ∈ w
  | 0, _, y, h => by simp [redTo, foldTo] at h
  | k + 1, hk, y, h => by
    rcases push_mem h with h | h
    · exact redTo_mem (by omega) h
    · rw [h, List.getD_eq_getElem?_getD, List.getElem?_eq_getElem (by omega : k < w.length)]
      exact List.getElem_mem _
theorem push_length (st : W) (x : Int) : (push st x).length ≤ st.length + 1 := by
  unfold push
  split
  · simp; omega
  · simp
theorem redTo_length (w : W) : ∀ k, (redTo w k).length ≤ k
  | 0 => by simp [redTo, foldTo]
  | k + 1 => by
    have := push_length (redTo w k) (w.getD k 0)
    have := redTo_length w k
    show (push (redTo w k) (w.getD k 0)).length ≤ k + 1
    omega
theorem red_mem {w : W} {y : Int} (h : y ∈ red w) : y ∈ w := redTo_mem (Nat.le_refl _) h
theorem red_length (w : W) : (red w).length ≤ w.length := redTo_length _ _
theorem length_inv (w : W) : (inv w).length = w.length := by simp [inv]
theorem mem_inv {w : W} {y : Int} (h : y ∈ inv w) : -y ∈ w := by
  simp [inv] at h
  obtain ⟨a, ha, rfl⟩ := h
  simpa using ha
def dest (t : Tb) (r : Nat) (g : Nat) : Nat := (t.at r (2 * g)).toNat
/-- no tree edge: the coset r and the generator g + 1 -/
def nt (t : Tb) (R : List W) (r g : Nat) : Bool :=
  !(decide (R.getD (dest t r g) [] = R.getD r [] ++ [((g + 1 : Nat) : Int)])) && !(decide (R.getD r [] = R.getD (dest t r g) [] ++ [-((g + 1 : Nat) : Int)]))
def pairRow (t : Tb) (R : List W) (r : Nat) (g : Nat) (l : List (Nat × Nat)) : List (Nat × Nat) := foldTo (fun g l => if nt t R r g then l ++ [(r, g)] else l) g l
def pairTo (t : Tb) (R : List W) (gens r : Nat) : List (Nat × Nat) := foldTo (fun r l => pairRow t R r gens l) r []
def pairs (t : Tb) (R : List W) (gens : Nat) : List (Nat × Nat) := pairTo t R gens t.length
/-- the number of a pair: the pairs up to it -/
def number (t : Tb) (R : List W) (gens r g : Nat) : Int := if nt t R r g then (pairRow t R r (g + 1) (pairTo t R gens r)).length else 0
def stepW (t : Tb) (r : Nat) (x : Int) : Nat := (t.at r (if 0 < x then (2 * x - 2).toNat else (-2 * x - 1).toNat)).toNat
def letN (t : Tb) (R : List W) (gens r : Nat) (x : Int) : Int :=
  if 0 < x then number t R gens r (x - 1).toNat else -number t R gens (stepW t r x) (-x - 1).toNat
end Go.Proofs.Ct
namespace Go.Proofs
open Go.RowKit Go.Shelf Go.Proofs.Ct
def Mild (x : Int) : Prop := -4611686018427387903 ≤ x ∧ x ≤ 4611686018427387903
theorem Mild.fits {w : List Int} (h : ∀ x ∈ w, Mild x) : Fits w := fun x hx => by
  have := h x hx
  unfold Mild at this
  omega
theorem Mild.at_ {w : List Int} (h : ∀ x ∈ w, Mild x) (k : Nat) : Mild (w.getD k 0) := by
  rw [List.getD_eq_getElem?_getD]
  rcases Nat.lt_or_ge k w.length with hk | hk
  · rw [List.getElem?_eq_getElem hk]; exact h _ (List.getElem_mem hk)
  · rw [List.getElem?_eq_none hk]; exact ⟨by simp, by simp⟩
set_option maxRecDepth 100000 in
theorem opp134_any (w : World) (x y : Int) (hx : Mild x) (hy : Mild y) : Calls Tryz.prog 108 #[.int .i64 x, .int .i64 y] w fun e w' => e = .returned (.bool (opp x y)) ∧ w = w' := by
  obtain ⟨h1, h2⟩ := hx
  obtain ⟨h3, h4⟩ := hy
  have HO : Hid (opp x y = (decide (x ≠ 0) && decide (y = -x))) := Lib.hid rfl
  by_cases hx0 : x = 0
  · have d1 : (x != 0) = false := by simpa using hx0
    have HR : Hid (opp x y = false) := Lib.hid (by rw [HO.out]; simp [hx0])
    clear hx0
    go_enter Tryz.func108, Tryz.ntmps108
    go_wp2_with fail
    go_ret
    exact ⟨ret_bool HR.out.symm, rfl⟩
  · have d1 : (x != 0) = true := by simpa using hx0
    by_cases hxy : x = y
    · have d2 : (x != y) = false := by simpa using hxy
      have HR : Hid (opp x y = false) := Lib.hid (by rw [HO.out]; simp; omega)
      clear hx0 hxy
      go_enter Tryz.func108, Tryz.ntmps108
      go_wp2_with fail
      go_ret
      exact ⟨ret_bool HR.out.symm, rfl⟩
    · have d2 : (x != y) = true := by simpa using hxy
      by_cases hs : x + y = 0
      · have d3 : (x + y == 0) = true := beq_iff_eq.2 hs
        have HR : Hid (opp x y = true) := Lib.hid (by rw [HO.out]; simp; omega)
        clear hx0 hxy hs
        go_enter Tryz.func108, Tryz.ntmps108
        go_wp2_with fail
        go_ret
        exact ⟨ret_bool HR.out.symm, rfl⟩
      · have d3 : (x + y == 0) = false := beq_eq_false_iff_ne.2 hs
        have HR : Hid (opp x y = false) := Lib.hid (by rw [HO.out]; simp; omega)
        clear hx0 hxy hs
        go_enter Tryz.func108, Tryz.ntmps108
        go_wp2_with fail
        go_ret
        exact ⟨ret_bool HR.out.symm, rfl⟩
set_option maxRecDepth 100000 in
theorem cancel146_any (w : World) (x y : Int) (hx : Mild x) (hy : Mild y) : Calls Tryz.prog 112 #[.int .i64 x, .int .i64 y] w fun e w' => e = .returned (.bool (opp x y)) ∧ w = w' := by
  obtain ⟨h1, h2⟩ := hx
  obtain ⟨h3, h4⟩ := hy
  have HO : Hid (opp x y = (decide (x ≠ 0) && decide (y = -x))) := Lib.hid rfl
  have d0 : (x != -9223372036854775808) = true := by simp; omega
  by_cases hx0 : x = 0
  · have d1 : (x != 0) = false := by simpa using hx0
    have HR : Hid (opp x y = false) := Lib.hid (by rw [HO.out]; simp [hx0])
    clear hx0
    go_enter Tryz.func112, Tryz.ntmps112
    go_wp2_with fail
    go_ret
    exact ⟨ret_bool HR.out.symm, rfl⟩
  · have d1 : (x != 0) = true := by simpa using hx0
    by_cases hs : y = -x
    · have d3 : (y == -x) = true := beq_iff_eq.2 hs
      have HR : Hid (opp x y = true) := Lib.hid (by rw [HO.out]; simp; omega)
      clear hx0 hs
      go_enter Tryz.func112, Tryz.ntmps112
      go_wp2_with fail
      go_ret
      exact ⟨ret_bool HR.out.symm, rfl⟩
    · have d3 : (y == -x) = false := beq_eq_false_iff_ne.2 hs
      have HR : Hid (opp x y = false) := Lib.hid (by rw [HO.out]; simp; omega)
      clear hx0 hs
      go_enter Tryz.func112, Tryz.ntmps112
      go_wp2_with fail
      go_ret
      exact ⟨ret_bool HR.out.symm, rfl⟩
theorem owns_take {w : World} {base : Nat} {A : Option Addr} {n c : Nat} {xs : List Int} (h : w.ownsRow base 3 1 (.slice A n c) n (ints xs)) {k : Nat} (hk : k ≤ n) : w.ownsRow base 3 1 (.slice A k c) k (ints (xs.take k)) := by
  obtain ⟨hl, h2⟩ := h
  have hxl : xs.length = n := by simpa [ints] using hl
  refine ⟨by simp [ints]; omega, ?_⟩
  rcases h2 with ⟨e, h0⟩ | ⟨g, cap, cur, e, hb, hg, hnc, hcm, hcs, ht⟩
  · cases e
    obtain rfl : k = 0 := by omega
    exact .inl ⟨rfl, rfl⟩
  · cases e
    refine .inr ⟨g, c, cur, rfl, hb, hg, by omega, hcm, hcs, ?_⟩
    have : ints (xs.take k) = (ints xs).take k := by simp [ints, List.map_take]
    rw [this, ← ht, List.take_take]
    congr 1
    omega
def RedPost (x : List Int) (w : World) (e : Ending) (w' : World) : Prop := ∃ A c, e = .returned (.slice A (red x).length c) ∧ OwnI w.heap.size w' (.slice A (red x).length c) (red x) ∧ Below w.heap.size w w'
set_option maxRecDepth 100000 in
set_option maxHeartbeats 1000000 in
theorem reduce99_any (w : World) (v : Value) (x : List Int) (h : IntsAt w v x) (hm : ∀ z ∈ x, Mild z) (hl : x.length ≤ 8000000) : Calls Tryz.prog 66 #[v] w (RedPost x w) := by
  obtain ⟨A0, c0, rfl, hc1, hc2, hc⟩ := h.open_
  have HC := Lib.hid hc
  have HM := Lib.hid hm
  clear hc h hm
  have hx0 : (0 : Int) ≤ (x.length : Int) := Int.natCast_nonneg _
  go_enter Tryz.func66, Tryz.ntmps66
  go_wp2_with fail
  go_step3
  go_wp2_with fail
  go_step3
  go_wp2_with fail
  go_loopw [3, 9] (fun so i wr => ∃ k n : Nat, i = .int .i64 k ∧ k ≤ x.length ∧ n ≤ k ∧ Hid (n = (redTo x k).length) ∧ ∃ A c, so = .slice A n c ∧ Hid (OwnI w.heap.size wr so (redTo x k) ∧ Below w.heap.size w wr)) (fun _ i _ => x.length - (intOf i).toNat)
  case atStart => exact ⟨0, 0, rfl, by omega, by omega, Lib.hid rfl, none, 0, rfl, Lib.hid ⟨World.ownsRow_nil _ _ _ _, Below.refl _ _⟩⟩
  case round =>
    obtain ⟨k, n, rfl, hk, hnk, HN, A, c, rfl, HS⟩ := hrel
    have hk0 : (0 : Int) ≤ (k : Int) := Int.natCast_nonneg _
    have hn0 : (0 : Int) ≤ (n : Int) := Int.natCast_nonneg _
    by_cases hlt : k < x.length
    · have hlt' : (k : Int) < (x.length : Int) := by omega
      obtain ⟨b, o, rfl, hcc⟩ := HC.out (by omega)
      have hck := hcc k hlt
      have hck' := (HS.out.2.cell (p := ⟨b, o + k, none⟩) (World.block_lt_of_cell? w _ hck)).trans hck
      have hmk := Mild.at_ HM.out k
      have HSTEP : Hid (redTo x (k + 1) = push (redTo x k) (x.getD k 0)) := Lib.hid rfl
      have hmst : ∀ z ∈ redTo x k, Mild z := fun z hz => HM.out z (redTo_mem hk hz)
      clear hcc hck
      generalize x.getD k 0 = z at *
      generalize redTo x k = st at *
      have hmk' : -4611686018427387903 ≤ z ∧ z ≤ 4611686018427387903 := hmk
      obtain ⟨hz1, hz2⟩ := hmk'
      have hpush := run_push (ty := 36) Tryz.underlying36 info3p rfl (by omega) wr w.heap.size (.slice A n c) n (ints st) (by have := HS.out.1; unfold OwnI at this; rw [← HN.out] at this; exact this) (.int .i64 z) rfl (by omega) HS.out.2.size
      by_cases hn : n = 0
      · subst hn
        have hst : st = [] := List.length_eq_zero_iff.1 HN.out.symm
        obtain ⟨A', c', w', hr, ho, hg, -⟩ := hpush
        have hsn : redTo x (k + 1) = st ++ [z] := by rw [HSTEP.out]; unfold push; rw [hst]; rfl
        have HR := Lib.hid hr
        have HS2 : Hid (OwnI w.heap.size w' (.slice A' (0 + 1) c') (redTo x (k + 1)) ∧ Below w.heap.size w w') := Lib.hid ⟨by
          unfold OwnI
          rw [hsn, List.length_append, ← HN.out, ints_app]
          exact ho, HS.out.2.grown hg HS.out.2.size (fun r hr => (owns_block HS.out.1 r hr).1)⟩
        have HN2 : Hid (0 + 1 = (redTo x (k + 1)).length) := Lib.hid (by rw [hsn, List.length_append, ← HN.out]; rfl)
        clear hr ho hg hsn hst hmst hn0
        go_wp2_with ((with_reducible refine wpList_sel 33 ?_); refine wpList_val rfl (r_app (.tmp 30) (.tmp 32) 36 rfl rfl rfl HR.out) ?_)
        go_roundw
        case rel => exact ⟨k + 1, 0 + 1, by go_num, by omega, by omega, HN2, _, _, rfl, HS2⟩
        case measure => simp [intOf]; omega
      · have d1 : decide ((n : Int) > 0) = true := by simp; omega
        have d2 : decide (0 < (n : Int)) = true := by simp; omega
        obtain ⟨m, rfl⟩ : ∃ m, n = m + 1 := ⟨n - 1, by omega⟩
        have hoI := OwnI.ints HS.out.1 (Mild.fits hmst)
        obtain ⟨A5, c5, e5, ht1, ht2, ht3⟩ := hoI.open_
        obtain ⟨rfl, -, rfl⟩ := Value.slice.inj e5
        obtain ⟨b5, o5, rfl, hoc⟩ := ht3 (by have := HN.out; omega)
        have hcm := hoc m (by have := HN.out; omega)
        have hcap : m ≤ c := by have := HN.out; omega
        have hcapI : (m : Int) ≤ (c : Int) := by omega
        have hmy := Mild.at_ hmst m
        have HP : Hid (push st z = if opp (st.getD m 0) z then st.take m else st ++ [z]) := Lib.hid (by
          unfold push
          rw [← HN.out, decide_eq_true (by omega : 0 < m + 1)]
          simp)
        clear hoI e5 ht3 hoc
        generalize st.getD m 0 = y at *
        have hmy' : -4611686018427387903 ≤ y ∧ y ≤ 4611686018427387903 := hmy
        obtain ⟨hy1, hy2⟩ := hmy'
        have hm0 : (0 : Int) ≤ (m : Int) := Int.natCast_nonneg _
        cases hop : opp y z with
        | true =>
          have hsn : redTo x (k + 1) = st.take m := by rw [HSTEP.out, HP.out, hop]; rfl
          have HS2 : Hid (OwnI w.heap.size wr (.slice (some ⟨b5, o5, none⟩) m c) (redTo x (k + 1)) ∧ Below w.heap.size w wr) := Lib.hid ⟨by
            have h1 := HS.out.1
            unfold OwnI at h1 ⊢
            rw [← HN.out] at h1
            have h2 := owns_take h1 (Nat.le_succ m)
            have h3 : (st.take m).length = m := by rw [List.length_take, ← HN.out]; omega
            rw [hsn, h3]
            exact h2, HS.out.2⟩
          have HN2 : Hid (m = (redTo x (k + 1)).length) := Lib.hid (by rw [hsn, List.length_take, ← HN.out]; omega)
          have HCALL := Lib.hid (opp134_any wr y z hmy hmk)
          rw [hop] at HCALL
          clear hsn hmst hop hpush hmy hmk
          go_wp2_with (go_at_call 108; (refine HCALL.out.mono ?_); rintro e w' ⟨rfl, rfl⟩)
          go_roundw
          case rel => exact ⟨k + 1, m, by go_num, by omega, by omega, HN2, _, _, rfl, HS2⟩
          case measure => simp [intOf]; omega
        | false =>
          obtain ⟨A', c', w', hr, ho, hg, -⟩ := hpush
          have hsn : redTo x (k + 1) = st ++ [z] := by rw [HSTEP.out, HP.out, hop]; rfl
          have HR := Lib.hid hr
          have HS2 : Hid (OwnI w.heap.size w' (.slice A' (m + 1 + 1) c') (redTo x (k + 1)) ∧ Below w.heap.size w w') := Lib.hid ⟨by
            unfold OwnI
            rw [hsn, List.length_append, ← HN.out, ints_app]
            exact ho, HS.out.2.grown hg HS.out.2.size (fun r hr => (owns_block HS.out.1 r hr).1)⟩
          have HN2 : Hid (m + 1 + 1 = (redTo x (k + 1)).length) := Lib.hid (by rw [hsn, List.length_append, ← HN.out]; rfl)
          have HCALL := Lib.hid (opp134_any wr y z hmy hmk)
          rw [hop] at HCALL
          clear hr ho hg hsn hmst hop hmy hmk
          go_wp2_with (first
            | (go_at_call 108; (refine HCALL.out.mono ?_); rintro e w' ⟨rfl, rfl⟩)
            | ((with_reducible refine wpList_sel 33 ?_); refine wpList_val rfl (r_app (.tmp 30) (.tmp 32) 36 rfl rfl rfl HR.out) ?_))
          go_roundw
          case rel => exact ⟨k + 1, m + 1 + 1, by go_num, by omega, by omega, HN2, _, _, rfl, HS2⟩
          case measure => simp [intOf]; omega
    · obtain rfl : k = x.length := by omega
      have HZ : Hid (redTo x x.length = red x) := Lib.hid rfl
      rw [HZ.out] at HN HS
      go_wp2_with fail
      rw [Exit.noGoto_ret]
      go_ret
      exact ⟨A, c, by rw [← HN.out]; rfl, by rw [← HN.out]; exact HS.out.1, HS.out.2⟩
end Go.Proofs
namespace Go.Proofs
open Go.RowKit Go.Shelf Go.Proofs.Ct
set_option maxRecDepth 100000 in
set_option maxHeartbeats 1000000 in
theorem reduce120_any (w : World) (v : Value) (x : List Int) (h : IntsAt w v x) (hm : ∀ z ∈ x, Mild z) (hl : x.length ≤ 8000000) : Calls Tryz.prog 73 #[v] w (RedPost x w) := by
  obtain ⟨A0, c0, rfl, hc1, hc2, hc⟩ := h.open_
  have HC := Lib.hid hc
  have HM := Lib.hid hm
  clear hc h hm
  have hx0 : (0 : Int) ≤ (x.length : Int) := Int.natCast_nonneg _
  go_enter Tryz.func73, Tryz.ntmps73
  go_wp2_with fail
  go_loopw [3, 4] (fun so i wr => ∃ k n : Nat, i = .int .i64 k ∧ k ≤ x.length ∧ n ≤ k ∧ Hid (n = (redTo x k).length) ∧ ∃ A c, so = .slice A n c ∧ Hid (OwnI w.heap.size wr so (redTo x k) ∧ Below w.heap.size w wr)) (fun _ i _ => x.length - (intOf i).toNat)
  case atStart => exact ⟨0, 0, rfl, by omega, by omega, Lib.hid rfl, none, 0, rfl, Lib.hid ⟨World.ownsRow_nil _ _ _ _, Below.refl _ _⟩⟩
  case round =>
    obtain ⟨k, n, rfl, hk, hnk, HN, A, c, rfl, HS⟩ := hrel
    have hk0 : (0 : Int) ≤ (k : Int) := Int.natCast_nonneg _
    have hn0 : (0 : Int) ≤ (n : Int) := Int.natCast_nonneg _
    by_cases hlt : k < x.length
    · have hlt' : (k : Int) < (x.length : Int) := by omega
      obtain ⟨b, o, rfl, hcc⟩ := HC.out (by omega)
      have hck := hcc k hlt
      have hck' := (HS.out.2.cell (p := ⟨b, o + k, none⟩) (World.block_lt_of_cell? w _ hck)).trans hck
      have hmk := Mild.at_ HM.out k
      have HSTEP : Hid (redTo x (k + 1) = push (redTo x k) (x.getD k 0)) := Lib.hid rfl
      have hmst : ∀ z ∈ redTo x k, Mild z := fun z hz => HM.out z (redTo_mem hk hz)
      clear hcc hck
      generalize x.getD k 0 = z at *
      generalize redTo x k = st at *
      have hmk' : -4611686018427387903 ≤ z ∧ z ≤ 4611686018427387903 := hmk
      obtain ⟨hz1, hz2⟩ := hmk'
      have hpush : ∀ q, ∃ A' c' w', (Builtin.append_ #[36, 36] 36 #[.slice A n c, .slice (some ⟨wr.heap.size, 0, none⟩) 1 1]).run Tryz.prog ((wr.drewN q).alloc (.cells #[.int .i64 z] 3)) = .ok (.slice A' (n + 1) c') w' ∧ w'.ownsRow w.heap.size 3 1 (.slice A' (n + 1) c') (n + 1) (ints st ++ [.int .i64 z]) ∧ wr.grownBy w' (Value.slice A n c).ownBlock := fun q => by
        obtain ⟨A', c', w', h1, h2, h3, -⟩ := run_push (ty := 36) Tryz.underlying36 info3p rfl (by omega) (wr.drewN q) w.heap.size (.slice A n c) n (ints st) (by have := HS.out.1; unfold OwnI at this; rw [← HN.out] at this; exact this) (.int .i64 z) rfl (by omega) HS.out.2.size
        exact ⟨A', c', w', h1, h2, h3.os, h3.tape, h3.output, h3.size, h3.block⟩
      by_cases hn : n = 0
      · subst hn
        have hst : st = [] := List.length_eq_zero_iff.1 HN.out.symm
        have hsn : redTo x (k + 1) = st ++ [z] := by rw [HSTEP.out]; unfold push; rw [hst]; rfl
        have HN2 : Hid (0 + 1 = (redTo x (k + 1)).length) := Lib.hid (by rw [hsn, List.length_append, ← HN.out]; rfl)
        have HSN := Lib.hid hsn
        clear hst hmst hn0 hsn
        have HPUSH := Lib.hid hpush
        clear hpush
        go_wp2_with fail
        go_quiet (fail)
        obtain ⟨A', c', w', hr, ho, hg⟩ := HPUSH.out nq
        have HR := Lib.hid hr
        have HS2 : Hid (OwnI w.heap.size w' (.slice A' (0 + 1) c') (redTo x (k + 1)) ∧ Below w.heap.size w w') := Lib.hid ⟨by
          unfold OwnI
          rw [HSN.out, List.length_append, ← HN.out, ints_app]
          exact ho, HS.out.2.grown hg HS.out.2.size (fun r hr => (owns_block HS.out.1 r hr).1)⟩
        clear hr ho hg
        go_wp2_with ((with_reducible refine wpList_sel 38 ?_); refine wpList_val rfl (r_app (.tmp 32) (.tmp 37) 36 rfl rfl rfl HR.out) ?_)
        go_roundw
        case rel => exact ⟨k + 1, 0 + 1, by go_num, by omega, by omega, HN2, _, _, rfl, HS2⟩
        case measure => simp [intOf]; omega
      · obtain ⟨m, rfl⟩ : ∃ m, n = m + 1 := ⟨n - 1, by omega⟩
        have hoI := OwnI.ints HS.out.1 (Mild.fits hmst)
        obtain ⟨A5, c5, e5, ht1, ht2, ht3⟩ := hoI.open_
        obtain ⟨rfl, -, rfl⟩ := Value.slice.inj e5
        obtain ⟨b5, o5, rfl, hoc⟩ := ht3 (by have := HN.out; omega)
        have hcm := hoc m (by have := HN.out; omega)
        have hcap : m ≤ c := by have := HN.out; omega
        have hcapI : (m : Int) ≤ (c : Int) := by omega
        have hmy := Mild.at_ hmst m
        have HP : Hid (push st z = if opp (st.getD m 0) z then st.take m else st ++ [z]) := Lib.hid (by
          unfold push
          rw [← HN.out, decide_eq_true (by omega : 0 < m + 1)]
          simp)
        clear hoI e5 ht3 hoc
        generalize st.getD m 0 = y at *
        have hmy' : -4611686018427387903 ≤ y ∧ y ≤ 4611686018427387903 := hmy
        obtain ⟨hy1, hy2⟩ := hmy'
        have hm0 : (0 : Int) ≤ (m : Int) := Int.natCast_nonneg _
        have HCALL : Hid (∀ W, Calls Tryz.prog 112 #[.int .i64 y, .int .i64 z] W fun e w' => e = .returned (.bool (opp y z)) ∧ W = w') := Lib.hid fun W => cancel146_any W y z hmy hmk
        cases hop : opp y z with
        | true =>
          have hsn : redTo x (k + 1) = st.take m := by rw [HSTEP.out, HP.out, hop]; rfl
          have HS2 : Hid (∀ q, OwnI w.heap.size (wr.drewN q) (.slice (some ⟨b5, o5, none⟩) m c) (redTo x (k + 1)) ∧ Below w.heap.size w (wr.drewN q)) := Lib.hid fun q => ⟨by
            have h1 := HS.out.1
            unfold OwnI at h1 ⊢
            rw [← HN.out] at h1
            have h2 := owns_take h1 (Nat.le_succ m)
            have h3 : (st.take m).length = m := by rw [List.length_take, ← HN.out]; omega
            rw [hsn, h3]
            exact h2, below_drewN HS.out.2 q⟩
          have HN2 : Hid (m = (redTo x (k + 1)).length) := Lib.hid (by rw [hsn, List.length_take, ← HN.out]; omega)
          rw [hop] at HCALL
          clear hsn hmst hop hpush hmy hmk
          go_wp2_with fail
          go_quiet ((go_at_call 112; exact quiet_left (HCALL.out _)))
          go_wp2_with fail
          go_roundw
          case rel => exact ⟨k + 1, m, by go_num, by omega, by omega, HN2, _, _, rfl, Lib.hid (HS2.out _)⟩
          case measure => simp [intOf]; omega
        | false =>
          have hsn : redTo x (k + 1) = st ++ [z] := by rw [HSTEP.out, HP.out, hop]; rfl
          have HN2 : Hid (m + 1 + 1 = (redTo x (k + 1)).length) := Lib.hid (by rw [hsn, List.length_append, ← HN.out]; rfl)
          have HSN := Lib.hid hsn
          rw [hop] at HCALL
          have HPUSH := Lib.hid hpush
          clear hpush hsn hmst hop hmy hmk
          go_wp2_with fail
          go_quiet ((go_at_call 112; exact quiet_left (HCALL.out _)))
          obtain ⟨A', c', w', hr, ho, hg⟩ := HPUSH.out nq
          have HR := Lib.hid hr
          have HS2 : Hid (OwnI w.heap.size w' (.slice A' (m + 1 + 1) c') (redTo x (k + 1)) ∧ Below w.heap.size w w') := Lib.hid ⟨by
            unfold OwnI
            rw [HSN.out, List.length_append, ← HN.out, ints_app]
            exact ho, HS.out.2.grown hg HS.out.2.size (fun r hr => (owns_block HS.out.1 r hr).1)⟩
          clear hr ho hg
          go_wp2_with ((with_reducible refine wpList_sel 38 ?_); refine wpList_val rfl (r_app (.tmp 32) (.tmp 37) 36 rfl rfl rfl HR.out) ?_)
          go_roundw
          case rel => exact ⟨k + 1, m + 1 + 1, by go_num, by omega, by omega, HN2, _, _, rfl, HS2⟩
          case measure => simp [intOf]; omega
    · obtain rfl : k = x.length := by omega
      have HZ : Hid (redTo x x.length = red x) := Lib.hid rfl
      rw [HZ.out] at HN HS
      go_wp2_with fail
      go_ret
      exact ⟨A, c, by rw [← HN.out]; rfl, by rw [← HN.out]; exact HS.out.1, HS.out.2⟩
end Go.Proofs
namespace Go.Proofs
open Go.RowKit Go.Shelf Go.Proofs.Ct
/-- u reads as xs by blocks from base on -/
def TabB (base : Nat) (w : World) (u : Value) (xs : List (List Int)) : Prop := ∀ w' : World, (∀ k, base ≤ k → k < w.heap.size → w'.heap[k]? = w.heap[k]?) → Tab w' u xs
theorem TabB.at_ {base : Nat} {w : World} {u : Value} {xs : List (List Int)} (h : TabB base w u xs) : Tab w u xs := h w fun _ _ _ => rfl
theorem TabB.nil {base : Nat} {w : World} : TabB base w (.slice none 0 0) [] := fun _ _ => tab_nil
theorem TabB.keep {base : Nat} {w w' : World} {u : Value} {xs : List (List Int)} (h : TabB base w u xs) (hs : w.heap.size ≤ w'.heap.size) (hk : ∀ k, base ≤ k → k < w.heap.size → w'.heap[k]? = w.heap[k]?) : TabB base w' u xs := fun w'' h'' => h w'' fun k h1 h2 => (h'' k h1 (by omega)).trans (hk k h1 h2)
theorem StdSt.first {w0 w : World} {bm : Nat} {b : Int} (hB : Below w0.heap.size w0 w) (hbm : w0.heap.size ≤ bm) (hm : MapI w bm [b]) (_hb : I64 b) :
    StdSt bm (fun _ => False) w0 ((w.alloc (.cells #[.int .i64 b] 3)).alloc (.cells #[] 35)) (.slice (some ⟨w.heap.size, 0, none⟩) 1 1) (.slice (some ⟨w.heap.size + 1, 0, none⟩) 0 0) [b] [] := by
  have h1 := hB.size
  have hg : w.grownBy ((w.alloc (.cells #[.int .i64 b] 3)).alloc (.cells #[] 35)) none := (World.grownBy_alloc w _ none).trans (World.grownBy_alloc _ _ none)
  have e1 := allocs_get [.cells #[.int .i64 b] 3, .cells #[] 35] w 0 _ rfl
  have e2 := allocs_get [.cells #[.int .i64 b] 3, .cells #[] 35] w 1 _ rfl
  refine ⟨hB.grown hg h1 (fun k hk => by cases hk), hbm, hm.kept hg (by simp), ⟨rfl, .inr ⟨w.heap.size, 1, #[.int .i64 b], rfl, h1, e1, Nat.le_refl _, by simp [maxLen], rfl, rfl⟩⟩, ⟨[], ⟨rfl, .inr ⟨w.heap.size + 1, 0, #[], rfl, by omega, e2, Nat.le_refl _, by simp, rfl, rfl⟩⟩, RowsF.nil _ _⟩, fun k hk => hk.elim⟩
end Go.Proofs
namespace Go.Proofs
open Go.RowKit Go.Shelf Go.Proofs.Ct
def numL (o : List Int) (n : Nat) : List Int := (List.range n).map fun (i : Nat) => if o.contains (i : Int) then numOf o (i : Int) else -1
def fillL (i n : Nat) : List Int := (List.range n).map fun (j : Nat) => if j < i then -1 else 0
theorem length_numL (o : List Int) (n : Nat) : (numL o n).length = n := by simp [numL]
theorem length_fillL (i n : Nat) : (fillL i n).length = n := by simp [fillL]
theorem map_range_set {f g : Nat → Int} {n k : Nat} {v : Int} (hv : g k = v) (ho : ∀ j, j < n → j ≠ k → g j = f j) : ((List.range n).map f).set k v = (List.range n).map g := by
  refine getD_ext (d := 0) (by simp) fun j hj => ?_
  have hj' : j < n := by simpa using hj
  rw [getD_set]
  by_cases e : k = j
  · subst e
    rw [if_pos ⟨rfl, by simpa using hj'⟩]
    simp [List.getD_eq_getElem?_getD, hj', hv]
  · rw [if_neg (fun h => e h.1)]
    simp [List.getD_eq_getElem?_getD, hj', ho j hj' (Ne.symm e)]
theorem fillL_full (n : Nat) : fillL n n = numL [] n := by
  unfold fillL numL
  apply List.map_congr_left
  intro j hj
  simp at hj
  simp [hj]
theorem numL_set {o : List Int} {n s : Nat} (hs : (s : Int) ∉ o) : (numL o n).set s o.length = numL (o ++ [(s : Int)]) n := by
  refine map_range_set ?_ fun j _ hne => ?_
  · rw [if_pos (by simp), numOf_new hs (List.prefix_refl _)]
  · have hne' : (j : Int) ≠ (s : Int) := by omega
    by_cases hm : (j : Int) ∈ o
    · rw [if_pos (by simp [hm]), if_pos (by simpa using hm), idxOf_pre (List.prefix_append _ _) hm]
    · rw [if_neg (by simp [hm, hne']), if_neg (by simpa using hm)]
/-- the numbers in a block, the order in a slice of its own -/
structure NumSt (nb n : Nat) (w0 wr : World) (vo : Value) (o : List Int) : Prop where
  below : Below w0.heap.size w0 wr
  nb0 : w0.heap.size ≤ nb
  num : XsAt wr nb (numL o n)
  ord : OwnI w0.heap.size wr vo o
  ap : vo.ownBlock ≠ some nb
theorem NumSt.visit {nb n : Nat} {w0 wr : World} {vo : Value} {o : List Int} (h : NumSt nb n w0 wr vo o) {s : Nat} (hs : s < n) (hn : (s : Int) ∉ o) (ho : o.length ≤ 8000000) :
    ∃ A' c' w', (Builtin.append_ #[35, 35] 35 #[vo, .slice (some ⟨wr.heap.size, 0, none⟩) 1 1]).run Tryz.prog ((wr.setCell ⟨nb, s, none⟩ (.int .i64 (o.length : Int))).alloc (.cells #[.int .i64 (s : Int)] 3)) = .ok (.slice A' (o.length + 1) c') w' ∧
      NumSt nb n w0 w' (.slice A' (o.length + 1) c') (o ++ [(s : Int)]) := by
  have hg1 := grown_setCell wr nb s (.int .i64 (o.length : Int))
  have hx := h.num.set (k := s) (by rw [length_numL]; exact hs) (o.length : Int)
  rw [numL_set hn] at hx
  have hor : OwnI w0.heap.size (wr.setCell ⟨nb, s, none⟩ (.int .i64 (o.length : Int))) vo o := owns_keep h.ord fun r hr =>
    hg1.block r (owns_lt h.ord hr) (fun e => h.ap (by rw [hr]; exact e))
  have hB1 : Below w0.heap.size w0 (wr.setCell ⟨nb, s, none⟩ (.int .i64 (o.length : Int))) := h.below.grown hg1 h.below.size (fun k hk => by cases hk; exact h.nb0)
  have hsz : (wr.setCell ⟨nb, s, none⟩ (.int .i64 (o.length : Int))).heap.size = wr.heap.size := by simp [World.setCell]
  generalize wr.setCell ⟨nb, s, none⟩ (.int .i64 (o.length : Int)) = W at *
  obtain ⟨A', c', w', hr, ho', hg, hw⟩ := push_int 35 35 Tryz.underlying35 W w0.heap.size vo o hor (s : Int) (by omega) hB1.size
  rw [hsz] at hr
  refine ⟨A', c', w', hr, hB1.grown hg hB1.size (fun k hk => (owns_block hor k hk).1), h.nb0, hx.grown hg h.ap, ho', fun e => ?_⟩
  rcases hw with hw | ⟨r', hr', hge⟩
  · exact h.ap (hw.symm.trans e)
  · rw [hr'] at e
    have : r' = nb := Option.some.inj e
    have := hx.lt
    omega
theorem made3 (n : Nat) : madeCells (Value.int .i64 0).cells n = Array.replicate n (.int .i64 0) := by
  apply Array.ext_getElem?
  intro k
  simp only [madeCells, Value.cells, Array.getElem?_map, Array.getElem?_range, Array.getElem?_replicate]
  by_cases h : k < n
  · simp [h, Nat.mod_one]
  · simp [h]
theorem NumSt.first {n nb : Nat} {w0 w : World} {b : Nat} (hB : Below w0.heap.size w0 w) (hnb : w0.heap.size ≤ nb) (hx : XsAt w nb (fillL n n)) (hb : b < n) :
    NumSt nb n w0 ((w.alloc (.cells #[.int .i64 (b : Int)] 3)).setCell ⟨nb, b, none⟩ (.int .i64 0)) (.slice (some ⟨w.heap.size, 0, none⟩) 1 1) [(b : Int)] := by
  have h1 := hB.size
  have h2 := hx.lt
  have hal : Below w.heap.size w (w.alloc (.cells #[.int .i64 (b : Int)] 3)) := (Below.refl _ _).alloc (Nat.le_refl _) _
  have hg := grown_setCell (w.alloc (.cells #[.int .i64 (b : Int)] 3)) nb b (.int .i64 0)
  have hx2 := (hx.below hal).set (k := b) (by rw [length_fillL]; exact hb) 0
  rw [fillL_full] at hx2
  have hx3 := numL_set (o := []) (n := n) (s := b) (by simp)
  simp only [List.length_nil, List.nil_append] at hx3
  rw [show ((0 : Nat) : Int) = 0 from rfl] at hx3
  rw [hx3] at hx2
  refine ⟨(hB.trans (hal.mono h1)).grown hg (by have := hal.size; omega) (fun k hk => by cases hk; exact hnb), hnb, hx2, ⟨rfl, .inr ⟨w.heap.size, 1, #[.int .i64 (b : Int)], rfl, h1, ?_, Nat.le_refl _, by simp [maxLen], rfl, rfl⟩⟩, fun e => ?_⟩
  · refine (hg.block w.heap.size (by simp) (fun e => ?_)).trans (heap_alloc_new w _)
    have : w.heap.size = nb := Option.some.inj e
    omega
  · have : w.heap.size = nb := Option.some.inj e
    omega
theorem TabB.mono {B B' : Nat} {w : World} {u : Value} {xs : List (List Int)} (h : TabB B w u xs) (hB : B' ≤ B) : TabB B' w u xs := fun w' hw => h w' fun k h1 h2 => hw k (Nat.le_trans hB h1) h2
end Go.Proofs
namespace Go.Proofs
open Go.RowKit Go.Shelf Go.Proofs.Ct
theorem run_append_nil2 {P : Program} (w : World) (base : Nat) (t ty e : TypeId) (i : TypeInfo) (ht : P.underlying t = some (.slice e)) (hi : P.info? e = some i) (c : Nat)
    (v : Value) (n : Nat) (xs : List Value) (hown : w.ownsRow base e 1 v n xs) : (Builtin.append_ #[t, t] ty #[v, .slice none 0 c]).run P w = .ok v w := by
  rcases hown.2 with ⟨rfl, rfl⟩ | ⟨g, cap, cur, rfl, _, _, hnc, _⟩
  · simp [Builtin.append_, run_underlying ht, sizeOf, typeInfo, hi, Builtin.lenOf, Builtin.firstCells]
  · simp [Builtin.append_, run_underlying ht, sizeOf, typeInfo, hi, Builtin.lenOf, Builtin.firstCells, hnc, storeCells]
/-- append(v, u...): u readable, v of the call's own -/
theorem run_append_ints (ty t : TypeId) (ht : Tryz.prog.underlying t = some (.slice 3)) (w : World) (base : Nat) (v u : Value) (x y : List Int) (h : OwnI base w v x) (hu : IntsAt w u y) (hx : x.length ≤ 9000000) (hy : y.length ≤ 9000000) (hb : base ≤ w.heap.size) :
    ∃ A' c' w', (Builtin.append_ #[t, t] ty #[v, u]).run Tryz.prog w = .ok (.slice A' (x ++ y).length c') w' ∧ OwnI base w' (.slice A' (x ++ y).length c') (x ++ y) ∧ w.grownBy w' v.ownBlock ∧
      ((Value.slice A' (x ++ y).length c').ownBlock = v.ownBlock ∨ ∃ r, (Value.slice A' (x ++ y).length c').ownBlock = some r ∧ w.heap.size ≤ r) := by
  obtain ⟨i3, hi3, hz3, hs3, hb3⟩ := info3p
  have hl : (x ++ y).length = x.length + y.length := List.length_append
  obtain ⟨A, c, rfl, hc1, hc2, hc⟩ := hu.open_
  cases A with
  | none =>
    have h0 : y = [] := by
      rcases Nat.eq_zero_or_pos y.length with h0 | h0
      · exact List.length_eq_zero_iff.1 h0
      · obtain ⟨b, off, hx, -⟩ := hc h0
        cases hx
    subst h0
    obtain ⟨A', c', e⟩ := owns_form h
    subst e
    rw [List.append_nil]
    exact ⟨A', c', w, run_append_nil2 w base t ty 3 i3 ht hi3 c _ _ _ h, h, World.grownBy.refl w _, .inl rfl⟩
  | some a =>
    have hcells : ∀ j u, (ints y)[j]? = some u → w.cell? (a.add j) = some u := by
      intro j u hju
      have hj : j < y.length := by
        have := (List.getElem?_eq_some_iff.1 hju).1
        simpa [ints] using this
      obtain ⟨b, off, e, hcc⟩ := hc (by omega)
      cases e
      rw [Addr.add_lit, hcc j hj, ← hju]
      simp [ints, hj, List.getD_eq_getElem?_getD]
    obtain ⟨v', w', hr, hown, hg, -, hw⟩ := run_append_own_at (P := Tryz.prog) w base t ty 3 i3 (.int .i64 0) 1 8 ht hi3 hz3 hs3 hb3 rfl (by omega) v x.length (ints x) h a y.length c (ints y) (by simp [ints]) hcells (fun u hu => by
      obtain ⟨z, -, rfl⟩ := List.mem_map.1 hu; rfl) (by unfold maxLen; omega) (by omega) hb
    obtain ⟨A', c', rfl⟩ := owns_form hown
    refine ⟨A', c', w', by rw [hr, hl], by unfold OwnI; rw [hl, ints_app]; exact hown, hg, by rw [hl]; exact hw.imp id fun hh => ⟨_, hh, Nat.le_refl _⟩⟩
theorem make_t {t : TypeId} (ht : Tryz.prog.underlying t = some (.slice 3)) (w : World) (n : Nat) (hn : n ≤ 9000000) : ∃ w', (Instr.makeSlice t (.int .i64 (n : Int)) (.int .i64 (n : Int))).run Tryz.prog w = .ok (.slice (some ⟨w.heap.size, 0, none⟩) n n) w' ∧ XsAt w' w.heap.size (fillL 0 n) ∧ Below w.heap.size w w' := by
  obtain ⟨i, hi, hz, hs, hb⟩ := info3p
  have h := run_makeSlice (P := Tryz.prog) w t 3 i (.int .i64 0) ht hi hz .i64 .i64 n n (by omega) (Int.le_refl _) (by rw [hs]; simp; omega) (by rw [hb]; omega) (by omega)
  simp only [Int.toNat_natCast, hs, Nat.mul_one] at h
  rw [made3] at h
  refine ⟨_, h, ⟨_, heap_alloc_new w _, ?_, fun k hk => ?_⟩, (Below.refl _ _).alloc (Nat.le_refl _) _⟩
  · rw [length_fillL]
    simp
  · rw [length_fillL] at hk
    have : (fillL 0 n).getD k 0 = 0 := by simp [fillL, List.getD_eq_getElem?_getD, hk]
    rw [this]
    simp [hk]
/-- the inverse, with k letters laid from behind -/
def turnTo (w : List Int) (k : Nat) : List Int := (List.range w.length).map fun (j : Nat) => if w.length - k ≤ j then -(w.getD (w.length - 1 - j) 0) else 0
theorem length_turnTo (w : List Int) (k : Nat) : (turnTo w k).length = w.length := by simp [turnTo]
theorem turnTo_set {w : List Int} {k : Nat} (hk : k < w.length) : (turnTo w k).set (w.length - 1 - k) (-(w.getD k 0)) = turnTo w (k + 1) := by
  refine map_range_set ?_ fun j _ hne => ?_
  · rw [if_pos (by omega), show w.length - 1 - (w.length - 1 - k) = k by omega]
  · by_cases h : w.length - k ≤ j
    · rw [if_pos h, if_pos (by omega)]
    · rw [if_neg h, if_neg (by omega)]
theorem turnTo_zero (w : List Int) : turnTo w 0 = fillL 0 w.length := by
  unfold turnTo fillL
  apply List.map_congr_left
  intro j hj
  simp at hj
  rw [if_neg (by omega), if_neg (by omega)]
theorem turnTo_full (w : List Int) : turnTo w w.length = inv w := by
  refine getD_ext (d := 0) (by simp [length_turnTo, length_inv]) fun j hj => ?_
  rw [length_turnTo] at hj
  have hj2 : w.length - 1 - j < w.length := by omega
  simp [turnTo, inv, List.getD_eq_getElem?_getD, hj, hj2]
theorem mild_inv {w : List Int} (h : ∀ z ∈ w, Mild z) : ∀ z ∈ inv w, Mild z := fun z hz => by
  have := h _ (mem_inv hz)
  unfold Mild at *
  omega
theorem mild_turnTo {w : List Int} (h : ∀ z ∈ w, Mild z) (k : Nat) : Fits (turnTo w k) := fun z hz => by
  simp only [turnTo, List.mem_map] at hz
  obtain ⟨j, -, rfl⟩ := hz
  have := Mild.at_ h (w.length - 1 - j)
  unfold Mild at this
  split <;> omega
set_option maxRecDepth 100000 in
set_option maxHeartbeats 1000000 in
theorem turned116_any (w : World) (v : Value) (x : List Int) (h : IntsAt w v x) (hm : ∀ z ∈ x, Mild z) (hl : x.length ≤ 8000000) :
    Calls Tryz.prog 68 #[v] w fun e w' => (∃ u, e = .returned u ∧ IntsAt w' u (inv x)) ∧ Below w.heap.size w w' := by
  obtain ⟨A0, c0, rfl, hc1, hc2, hc⟩ := h.open_
  obtain ⟨w1, hr1, hx1, hb1⟩ := make_t Tryz.underlying36 w x.length (by omega)
  rw [← turnTo_zero] at hx1
  have HR1 := Lib.hid hr1
  have HX1 := Lib.hid hx1
  have HB1 := Lib.hid hb1
  have HC := Lib.hid hc
  have HM := Lib.hid hm
  clear hc h hm hr1 hx1 hb1
  have hx0 : (0 : Int) ≤ (x.length : Int) := Int.natCast_nonneg _
  have hx3 : (x.length : Int) ≤ 8000000 := by omega
  go_enter Tryz.func68, Tryz.ntmps68
  go_wp2_with ((with_reducible refine wpList_sel 8 ?_); refine wpList_val rfl (r_make 36 (.tmp 7) (.tmp 7) rfl rfl rfl HR1.out) ?_)
  go_loopw [11] (fun i wr => ∃ k : Nat, i = .int .i64 k ∧ k ≤ x.length ∧ Hid (XsAt wr w.heap.size (turnTo x k) ∧ Below w.heap.size w wr)) (fun i _ => x.length - (intOf i).toNat)
  case atStart => exact ⟨0, rfl, by omega, Lib.hid ⟨HX1.out, HB1.out⟩⟩
  case round =>
    clear HX1 HB1
    obtain ⟨k, rfl, hk, HS⟩ := hrel
    have hk0 : (0 : Int) ≤ (k : Int) := Int.natCast_nonneg _
    by_cases hlt : k < x.length
    · have hlt' : (k : Int) < (x.length : Int) := by omega
      obtain ⟨b, o, rfl, hcc⟩ := HC.out (by omega)
      have hck := hcc k hlt
      have hck' := (HS.out.2.cell (p := ⟨b, o + k, none⟩) (World.block_lt_of_cell? w _ hck)).trans hck
      have hmk := Mild.at_ HM.out k
      have HSET := Lib.hid (turnTo_set hlt)
      have hcx := HS.out.1.cell (k := x.length - 1 - k) (by rw [length_turnTo]; omega)
      have hfx := HS.out.1.frozen (x.length - 1 - k)
      have hset := HS.out.1.set (k := x.length - 1 - k) (by rw [length_turnTo]; omega) (-(x.getD k 0))
      rw [HSET.out] at hset
      have HST := Lib.hid hset
      clear hcc hck hset HSET
      generalize x.getD k 0 = z at *
      have hmk' : -4611686018427387903 ≤ z ∧ z ≤ 4611686018427387903 := hmk
      obtain ⟨hz1, hz2⟩ := hmk'
      obtain ⟨d, hd⟩ : ∃ d : Nat, x.length = d + 1 + k := ⟨x.length - 1 - k, by omega⟩
      have hdd : x.length - 1 - k = d := by omega
      rw [hdd] at hcx hfx HST
      have hidx : (x.length : Int) - 1 - (k : Int) = (d : Int) := by omega
      have hd0 : (0 : Int) ≤ (d : Int) := Int.natCast_nonneg _
      have hd1 : (d : Int) < (x.length : Int) := by omega
      have HD := Lib.hid hd
      have HDD := Lib.hid hdd
      clear hd hdd hmk
      go_wp2_with fail
      go_roundw
      case rel => exact ⟨k + 1, by go_num, by omega, Lib.hid ⟨HST.out, HS.out.2.grown (grown_setCell _ _ _ _) HS.out.2.size (fun k hk => by cases hk; exact Nat.le_refl _)⟩⟩
      case measure => simp [intOf]; omega
    · obtain rfl : k = x.length := by omega
      have HT := Lib.hid (HS.out.1.ints (n := x.length) (cap := x.length) (length_turnTo _ _) (Nat.le_refl _) (by omega) (mild_turnTo HM.out _))
      rw [turnTo_full] at HT
      go_wp2_with fail
      go_ret
      exact ⟨⟨_, rfl, HT.out⟩, HS.out.2⟩
end Go.Proofs
