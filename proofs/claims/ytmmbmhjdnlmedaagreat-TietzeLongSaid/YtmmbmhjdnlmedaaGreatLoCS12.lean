/- tietze.without; tietze.heads, tietze.Length; tietze.replace; tietze.Eliminate; tietze.Eliminate: the image; tietze.Eliminate: what is handed to Clean is a presentation (plain). -/
import Derived.Test.YtmmbmhjdnlmedaaGreatLoCS11
import Derived.Test.YtmmbmhjdnlmedaaGreatLoCS8
import Derived.Test.YtmmbmhjdnlmedaaGreatLoCS6
namespace Go.Proofs
open Go.RowKit Go.Shelf Go.Lib Go.Sort Go.Proofs.Ct Go.Proofs.Tz Go.Maps
theorem own_cur {base : Nat} {w : World} {g n c : Nat} {xs : List Int} (h : OwnI base w (.slice (some ⟨g, 0, none⟩) n c) xs) (_h0 : 0 < xs.length) : ∃ cur : Array Value, w.heap[g]? = some (.cells cur 3 (0, 0)) ∧ base ≤ g ∧ xs.length ≤ c ∧ c ≤ maxLen ∧ cur.size = c ∧ cur.toList.take xs.length = ints xs ∧ n = xs.length := by
  obtain ⟨hlen, ho⟩ := h
  rcases ho with ⟨e, -⟩ | ⟨g', cap, cur, e, hb, hC, h1, hm, hs, ht⟩
  · cases e
  · injection e with e1 e2 e3
    injection e1 with e1
    injection e1 with e1
    subst e1 e2 e3
    rw [Nat.mul_one] at hs ht
    exact ⟨cur, hC, hb, h1, hm, hs, ht, rfl⟩
theorem own_cell {base : Nat} {w : World} {g n c k : Nat} {xs : List Int} (h : OwnI base w (.slice (some ⟨g, 0, none⟩) n c) xs) (hk : k < xs.length) : w.cell? ⟨g, k, none⟩ = some (.int .i64 (xs.getD k 0)) ∧ w.frozen? ⟨g, k, none⟩ = false := by
  obtain ⟨cur, hC, -, h1, -, hs, ht, -⟩ := own_cur h (by omega)
  refine ⟨?_, by simp [World.frozen?, hC]⟩
  rw [cell_of_row _ _ _ _ _ _ hC]
  have h5 : (cur.toList.take xs.length)[k]? = (ints xs)[k]? := by rw [ht]
  rw [List.getElem?_take, if_pos hk, Array.getElem?_toList] at h5
  rw [h5]
  simp [ints, List.getD_eq_getElem?_getD, hk]
theorem own_set {base : Nat} {w : World} {g n c k : Nat} {xs : List Int} (h : OwnI base w (.slice (some ⟨g, 0, none⟩) n c) xs) (hk : k < xs.length) (z : Int) : OwnI base (w.setCell ⟨g, k, none⟩ (.int .i64 z)) (.slice (some ⟨g, 0, none⟩) n c) (xs.set k z) ∧ base ≤ g := by
  obtain ⟨cur, hC, hb, h1, hm, hs, ht, rfl⟩ := own_cur h (by omega)
  have hnew : (w.setCell ⟨g, k, none⟩ (.int .i64 z)).heap[g]? = some (.cells (cur.setIfInBounds k (.int .i64 z)) 3 (0, 0)) := by
    rw [setCell_eq]
    simp [mapBlock, Array.getElem?_modify, hC, onCells]
  refine ⟨⟨by rw [length_ints, Nat.mul_one], .inr ⟨g, c, _, by rw [List.length_set], hb, hnew, by rw [List.length_set]; exact h1, hm, by simp [hs], ?_⟩⟩, hb⟩
  rw [List.length_set, Nat.mul_one, Array.toList_setIfInBounds, List.take_set, ht]
  simp [ints, List.map_set]
theorem own_some {base : Nat} {w : World} {A : Option Addr} {n c : Nat} {xs : List Int} (h : OwnI base w (.slice A n c) xs) (h0 : 0 < xs.length) : ∃ g, A = some ⟨g, 0, none⟩ := by
  obtain ⟨-, ho⟩ := h
  rcases ho with ⟨-, e⟩ | ⟨g', cap, cur, e, -⟩
  · omega
  · injection e with e1
    exact ⟨g', e1⟩
/-- the first k letters are lowered -/
def lowTo (g : Int) (x : List Int) (k : Nat) : List Int := (x.take k).map (lowI g) ++ x.drop k
theorem lowTo_len (g : Int) (x : List Int) {k : Nat} (hk : k ≤ x.length) : (lowTo g x k).length = x.length := by
  unfold lowTo
  rw [List.length_append, List.length_map, List.length_take, List.length_drop]
  omega
theorem lowTo_at (g : Int) (x : List Int) {k : Nat} (hk : k < x.length) : (lowTo g x k).getD k 0 = x.getD k 0 := by
  unfold lowTo
  rw [List.getD_eq_getElem?_getD, List.getElem?_append_right (by rw [List.length_map, List.length_take]; omega), List.length_map, List.length_take, Nat.min_eq_left (by omega), Nat.sub_self, List.getElem?_drop, Nat.add_zero, ← List.getD_eq_getElem?_getD]
theorem lowTo_succ (g : Int) (x : List Int) {k : Nat} (hk : k < x.length) : (lowTo g x k).set k (lowI g (x.getD k 0)) = lowTo g x (k + 1) := by
  unfold lowTo
  have e : x.getD k 0 = x[k] := by simp [List.getD_eq_getElem?_getD, hk]
  rw [e, List.set_append_right _ _ (by rw [List.length_map, List.length_take]; omega), List.length_map, List.length_take, Nat.min_eq_left (by omega), Nat.sub_self, List.drop_eq_getElem_cons hk, List.set_cons_zero, List.take_succ_eq_append_getElem hk, List.map_append, List.append_assoc]
  rfl
set_option maxRecDepth 100000 in
set_option maxHeartbeats 1000000 in
theorem without23_any (w : World) (u : Value) (x : List Int) (g : Int) (hg : 0 ≤ g ∧ g ≤ 1000000) (hu : IntsAt w u x) (hm : ∀ z ∈ x, Mild z) (hl : x.length ≤ 1000000) : Calls Tryz.prog 30 #[u, .int .i64 g] w (OwnPost (lowW g x) w) := by
  have HCL := Lib.hid (clone71_any w u x hu (by omega))
  have HM := Lib.hid fun k => Mild.at_ hm k
  obtain ⟨A0, c0, rfl, -⟩ := hu.open_
  have hx0 : (0 : Int) ≤ (x.length : Int) := Int.natCast_nonneg _
  have hx1 : (x.length : Int) ≤ 1000000 := by omega
  clear hu hm
  go_enter Tryz.func30, Tryz.ntmps30
  go_wp2_with (go_at_call 69; (refine HCL.out.mono ?_); rintro e w1 ⟨A, c, rfl, ho, hb⟩; have HO := Lib.hid ho; have HB := Lib.hid hb; clear ho hb)
  go_loopw [6, 7, 12, 17, 27] (fun _ _ i _ _ wr => ∃ k : Nat, k ≤ x.length ∧ i = .int .i64 k ∧ Hid (OwnI w.heap.size wr (.slice A x.length c) (lowTo g x k)) ∧ Hid (Below w.heap.size w wr)) (fun _ _ i _ _ _ => x.length - (intOf i).toNat)
  case atStart => exact ⟨0, Nat.zero_le _, rfl, Lib.hid (by unfold lowTo; exact HO.out), Lib.hid HB.out⟩
  case round =>
    clear HO HB
    obtain ⟨k, hk, rfl, HO, HB⟩ := hrel
    have hk0 : (0 : Int) ≤ (k : Int) := Int.natCast_nonneg _
    by_cases hlt : k < x.length
    · have hlt' : (k : Int) < (x.length : Int) := by omega
      have hll := lowTo_len g x (k := k) (by omega)
      obtain ⟨b, rfl⟩ := own_some HO.out (by omega)
      obtain ⟨hcell, hfz⟩ := own_cell HO.out (k := k) (by omega)
      rw [lowTo_at g x hlt] at hcell
      have hz := HM.out k
      have HSET : Hid (OwnI w.heap.size (wr.setCell ⟨b, k, none⟩ (.int .i64 (lowI g (x.getD k 0)))) (.slice (some ⟨b, 0, none⟩) x.length c) (lowTo g x (k + 1)) ∧ w.heap.size ≤ b) := Lib.hid (by
        have := own_set HO.out (k := k) (by omega) (lowI g (x.getD k 0))
        rwa [lowTo_succ g x hlt] at this)
      have HKP : Hid (lowI g (x.getD k 0) = x.getD k 0 → lowTo g x (k + 1) = lowTo g x k) := Lib.hid fun e => by
        rw [← lowTo_succ g x hlt, e]
        have hk' : k < (lowTo g x k).length := by omega
        have e2 : x.getD k 0 = (lowTo g x k)[k] := by rw [← lowTo_at g x hlt, List.getD_eq_getElem?_getD, List.getElem?_eq_getElem hk']; rfl
        rw [e2, List.set_getElem_self]
      have HLI : Hid (lowI g (x.getD k 0) = if x.getD k 0 > g then x.getD k 0 - 1 else if x.getD k 0 < -g then x.getD k 0 + 1 else x.getD k 0) := Lib.hid rfl
      unfold Mild at hz
      have hgw : IntKind.i64.wrap (-g) = -g := by simp [IntKind.wrap, IntKind.bits, IntKind.signed]; omega
      clear hll
      generalize x.getD k 0 = z at *
      by_cases h1 : g < z
      · have HE : Hid (lowI g z = z - 1) := Lib.hid (by rw [HLI.out, if_pos h1])
        rw [HE.out] at HSET
        go_wp2_with fail
        go_roundw
        case rel => exact ⟨k + 1, by omega, by go_num, Lib.hid HSET.out.1, Lib.hid (HB.out.setCell (p := ⟨b, k, none⟩) HSET.out.2 _)⟩
        case measure => simp [intOf]; omega
      · have h1' : z ≤ g := by omega
        by_cases h2 : z < -g
        · have HE : Hid (lowI g z = z + 1) := Lib.hid (by rw [HLI.out, if_neg (by omega), if_pos h2])
          rw [HE.out] at HSET
          go_wp2_with fail
          go_roundw
          case rel => exact ⟨k + 1, by omega, by go_num, Lib.hid HSET.out.1, Lib.hid (HB.out.setCell (p := ⟨b, k, none⟩) HSET.out.2 _)⟩
          case measure => simp [intOf]; omega
        · have HE : Hid (lowI g z = z) := Lib.hid (by rw [HLI.out, if_neg (by omega), if_neg h2])
          have h2' : ¬ z < -g := h2
          go_wp2_with fail
          go_roundw
          case rel => exact ⟨k + 1, by omega, by go_num, Lib.hid (by rw [HKP.out HE.out]; exact HO.out), Lib.hid HB.out⟩
          case measure => simp [intOf]; omega
    · obtain rfl : k = x.length := by omega
      have HE : Hid (lowTo g x x.length = lowW g x) := Lib.hid (by unfold lowTo lowW; rw [List.take_length, List.drop_length, List.append_nil])
      have HN : Hid ((lowW g x).length = x.length) := Lib.hid (by unfold lowW; rw [List.length_map])
      go_wp2_with fail
      go_ret
      exact ⟨A, c, by rw [HN.out]; rfl, by rw [HN.out, ← HE.out]; exact HO.out, HB.out⟩
end Go.Proofs
namespace Go.Proofs
open Go.RowKit Go.Shelf Go.Lib Go.Sort Go.Proofs.Ct Go.Proofs.Tz Go.Maps
set_option maxRecDepth 100000 in
set_option maxHeartbeats 1000000 in
theorem heads71_any (w : World) (u v : Value) (s h : List Int) (k : Nat) (hu : IntsAt w u s) (hv : IntsAt w v h) (hk : k < s.length) (hl : s.length ≤ 1000000) (hl2 : h.length ≤ 1000000) : Calls Tryz.prog 118 #[u, .int .i64 (k : Int), v] w fun e w' => e = .returned (.bool (headsB s k h)) ∧ ∃ q, w' = w.drewN q := by
  obtain ⟨A, c, rfl, h1, h2, hcs⟩ := hu.open_
  obtain ⟨B, d, rfl, h3, h4, hch⟩ := hv.open_
  have HS := Lib.hid hcs
  have HH := Lib.hid hch
  have HB : Hid (headsB s k h = (List.range h.length).all fun i => decide (s.getD ((k + i) % s.length) 0 = h.getD i 0)) := Lib.hid rfl
  have hk0 : (0 : Int) ≤ (k : Int) := Int.natCast_nonneg _
  have hkl : (k : Int) < (s.length : Int) := by omega
  have hsl : (s.length : Int) ≤ 1000000 := by omega
  have hhl : (h.length : Int) ≤ 1000000 := by omega
  have hs0 : ((s.length : Int) == 0) = false := beq_eq_false_iff_ne.2 (by omega)
  have hs1 : ¬ (s.length : Int) = 0 := by omega
  clear hu hv hcs hch
  go_enter Tryz.func118, Tryz.ntmps118
  go_wp2_with fail
  go_loopw [7, 8, 11] (fun _ _ z wr => ∃ i : Nat, i ≤ h.length ∧ z = .int .i64 i ∧ (∀ j, j < i → s.getD ((k + j) % s.length) 0 = h.getD j 0) ∧ ∃ q, wr = w.drewN q) (fun _ _ z _ => h.length - (intOf z).toNat)
  case atStart => exact ⟨0, Nat.zero_le _, rfl, fun j hj => absurd hj (by omega), 0, rfl⟩
  case round =>
    obtain ⟨i, hi, rfl, hz, q, rfl⟩ := hrel
    have HZ := Lib.hid hz
    clear hz
    have hi0 : (0 : Int) ≤ (i : Int) := Int.natCast_nonneg _
    by_cases hlt : i < h.length
    · have hlt' : (i : Int) < (h.length : Int) := by omega
      obtain ⟨b, o, rfl, hcs⟩ := HS.out (by omega)
      obtain ⟨b2, o2, rfl, hch⟩ := HH.out (by omega)
      obtain ⟨r, hr⟩ : ∃ r, r = (k + i) % s.length := ⟨_, rfl⟩
      have hrl : r < s.length := by rw [hr]; exact Nat.mod_lt _ (by omega)
      have hcr := hcs r hrl
      have hci := hch i hlt
      have hrem : ((k : Int) + (i : Int)).tmod (s.length : Int) = (r : Int) := by
        rw [hr, ← Int.natCast_add, Int.ofNat_tmod]
      have hr0 : (0 : Int) ≤ (r : Int) := Int.natCast_nonneg _
      have hrl' : (r : Int) < (s.length : Int) := by omega
      have HR : Hid (∀ x y, s.getD r 0 = x → h.getD i 0 = y → (s.getD ((k + i) % s.length) 0 = x ∧ h.getD i 0 = y)) := Lib.hid fun x y e1 e2 => ⟨by rw [← hr]; exact e1, e2⟩
      clear hcs hch hr
      generalize hxe : s.getD r 0 = x at *
      generalize hye : h.getD i 0 = y at *
      obtain ⟨e1, e2⟩ := HR.out x y rfl rfl
      have HX := Lib.hid e1
      have HY := Lib.hid hye
      clear hxe hye e1 e2 HR
      by_cases hxy : x = y
      · have hd : (x != y) = false := by simpa using hxy
        have HXY := Lib.hid hxy
        clear hxy
        go_wp2_with fail
        go_roundw
        case rel => exact ⟨i + 1, by omega, by go_num, all_succ HZ.out (by rw [HX.out, HY.out]; exact HXY.out), (by first | exact ⟨_, rfl⟩ | exact ex_drewN)⟩
        case measure => simp [intOf]; omega
      · have hd : (x != y) = true := by simpa using hxy
        have HF : Hid (headsB s k h = false) := Lib.hid (by
          rw [HB.out, List.all_eq_false]
          exact ⟨i, List.mem_range.2 hlt, by rw [HX.out, HY.out]; simpa using hxy⟩)
        clear hxy
        go_wp2_with fail
        go_ret
        exact ⟨ret_bool HF.out.symm, (by first | exact ⟨_, rfl⟩ | exact ex_drewN)⟩
    · obtain rfl : i = h.length := by omega
      have HF : Hid (headsB s k h = true) := Lib.hid (by
        rw [HB.out, List.all_eq_true]
        exact fun j hj => decide_eq_true (HZ.out j (List.mem_range.1 hj)))
      go_wp2_with fail
      go_ret
      exact ⟨ret_bool HF.out.symm, (by first | exact ⟨_, rfl⟩ | exact ex_drewN)⟩
/-- the length of the first k words -/
def lenTo (l : List (List Int)) (k : Nat) : Nat := lenL (l.take k)
theorem lenTo_succ (l : List (List Int)) {k : Nat} (hk : k < l.length) : lenTo l (k + 1) = lenTo l k + (l.getD k []).length := by
  unfold lenTo lenL
  rw [List.take_succ_eq_append_getElem hk, List.map_append, List.sum_append]
  simp [List.getD_eq_getElem?_getD, hk]
theorem lenTo_le (l : List (List Int)) : ∀ k, lenTo l k ≤ lenL l := fun k => by
  unfold lenTo lenL
  conv => rhs; rw [← List.take_append_drop k l, List.map_append, List.sum_append]
  omega
set_option maxRecDepth 100000 in
set_option maxHeartbeats 1000000 in
theorem length5_any (w : World) (v : Value) (g : Int) (l : List (List Int)) (hv : Tab w v l) (hl : lenL l ≤ 1000000000000) : Calls Tryz.prog 11 #[.agg #[.int .i64 g, v]] w fun e w' => e = .returned (.int .i64 (lenL l : Int)) ∧ Below w.heap.size w w' := by
  obtain ⟨A, c, rfl, h1, h2, h3⟩ := hv.open_
  have HV := Lib.hid hv
  have hl0 : (0 : Int) ≤ (l.length : Int) := Int.natCast_nonneg _
  have HB : Hid (Below w.heap.size w (w.alloc (.cells #[.int .i64 g, .slice A l.length c] 24))) := Lib.hid ((Below.refl _ _).alloc (Nat.le_refl _) _)
  have hnew := heap_alloc_new w (.cells #[.int .i64 g, .slice A l.length c] 24)
  have hc := (cell_of2 hnew).2
  clear hnew h3 hv
  generalize hw1 : w.alloc (.cells #[.int .i64 g, .slice A l.length c] 24) = w1 at *
  have HT := Lib.hid (kept_tab.below HV.out HB.out)
  have hlw : (lenL l : Int) ≤ 1000000000000 := by omega
  go_enter Tryz.func11, Tryz.ntmps11
  go_wp2_with fail
  try rw [hw1]
  clear hw1
  go_loopw [3, 5, 9] (fun s _ z wr => ∃ k : Nat, k ≤ l.length ∧ z = .int .i64 k ∧ s = .int .i64 (lenTo l k : Int) ∧ ∃ q, wr = w1.drewN q) (fun _ _ z _ => l.length - (intOf z).toNat)
  case atStart => exact ⟨0, Nat.zero_le _, rfl, rfl, 0, rfl⟩
  case round =>
    obtain ⟨k, hk, rfl, rfl, q, rfl⟩ := hrel
    have hk0 : (0 : Int) ≤ (k : Int) := Int.natCast_nonneg _
    by_cases hlt : k < l.length
    · have hlt' : (k : Int) < (l.length : Int) := by omega
      obtain ⟨A', c', e', t1, t2, t3⟩ := HT.out.open_
      injection e' with e1 _ e3
      subst e1 e3
      obtain ⟨b, o, rfl, hcc⟩ := t3 (by omega)
      obtain ⟨u, hu, hI⟩ := hcc k hlt
      obtain ⟨Au, cu, rfl, -⟩ := hI.open_
      have hs := lenTo_succ l hlt
      have hle := lenTo_le l (k + 1)
      have HS := Lib.hid hs
      have h5 : (0 : Int) ≤ (lenTo l k : Int) := Int.natCast_nonneg _
      have h6 : (0 : Int) ≤ ((l.getD k []).length : Int) := Int.natCast_nonneg _
      have h7 : (lenTo l k : Int) + ((l.getD k []).length : Int) ≤ 1000000000000 := by omega
      clear hcc hI t1 t2 t3 hs hle
      generalize (l.getD k []).length = n at *
      generalize hm : lenTo l k = m at *
      have HM := Lib.hid hm
      clear hm
      go_wp2_with fail
      go_roundw
      case rel => exact ⟨k + 1, by omega, by go_num, congrArg (Value.int .i64) (by rw [HS.out]; omega), (by first | exact ⟨_, rfl⟩ | exact ex_drewN)⟩
      case measure => simp [intOf]; omega
    · obtain rfl : k = l.length := by omega
      have HE : Hid (lenTo l l.length = lenL l) := Lib.hid (by unfold lenTo; rw [List.take_length])
      go_wp2_with fail
      go_ret
      exact ⟨ret_int (by rw [HE.out]), below_drewN HB.out _⟩
end Go.Proofs
namespace Go.Proofs
open Go.RowKit Go.Shelf Go.Lib Go.Sort Go.Proofs.Ct Go.Proofs.Tz Go.Maps
theorem madeW (n : Nat) : madeCells (Value.slice none 0 0).cells n = Array.replicate n (.slice none 0 0) := by
  apply Array.ext_getElem?
  intro k
  simp only [madeCells, Value.cells, Array.getElem?_map, Array.getElem?_range, Array.getElem?_replicate]
  by_cases h : k < n
  · simp [h, Nat.mod_one]
  · simp [h]
theorem makeW (w : World) (n : Nat) (hn : n ≤ 8000000) : (Instr.makeSlice 22 (.int .i64 (n : Int)) (.int .i64 (n : Int))).run Tryz.prog w =
    .ok (.slice (some ⟨w.heap.size, 0, none⟩) n n) (w.alloc (.cells (Array.replicate n (.slice none 0 0)) 36)) := by
  obtain ⟨i, hi, hz, hs, hb⟩ := info25p
  have := run_makeSlice (P := Tryz.prog) w 22 36 i (.slice none 0 0) Tryz.underlying22 hi hz .i64 .i64 n n (by omega) (Int.le_refl _) (by rw [hs]; simp; omega) (by rw [hb]; omega) (by omega)
  rw [this, hs, Int.toNat_natCast, Nat.mul_one, madeW]
theorem ints_nil (w : World) : IntsAt w (.slice none 0 0) [] := ⟨⟨none, 0, 0, rfl, rfl, Nat.le_refl _, by simp [maxLen], fun h => absurd h (by simp)⟩, fun z hz => by cases hz⟩
/-- a list of n words just made -/
theorem OutSt.made (w0 wr : World) (hb : Below w0.heap.size w0 wr) (n : Nat) (hn : n ≤ 8000000) : OutSt 36 (fun _ => False) w0 (wr.alloc (.cells (Array.replicate n (.slice none 0 0)) 36)) (.slice (some ⟨wr.heap.size, 0, none⟩) n n) (List.replicate n []) := by
  refine ⟨hb.alloc hb.size _, ⟨List.replicate n (.slice none 0 0), ⟨by simp, .inr ⟨wr.heap.size, n, _, by rw [List.length_replicate], hb.size, heap_alloc_new wr _, by rw [List.length_replicate]; exact Nat.le_refl _, by unfold maxLen; omega, by simp, by simp⟩⟩, by simp, fun j hj => ?_⟩, fun k hk => hk.elim⟩
  rw [List.length_replicate] at hj
  refine ⟨.slice none 0 0, by simp [hj], ?_⟩
  rw [show (List.replicate n ([] : List Int)).getD j [] = [] by simp [List.getD_eq_getElem?_getD, hj]]
  exact fun w' _ => ints_nil w'
/-- a word takes a place in the list -/
theorem OutSt2.put {F : Nat → Prop} {w0 wr : World} {g n c k : Nat} {A : Option Addr} {m d : Nat} {rows : List (List Int)} {x : List Int} (h : OutSt2 36 F w0 wr (.slice (some ⟨g, 0, none⟩) n c) (.slice A m d) rows x) (hf : Fits x) (hk : k < rows.length) :
    OutSt 36 (fun r => F r ∨ (Value.slice A m d).ownBlock = some r) w0 (wr.setCell ⟨g, k, none⟩ (.slice A m d)) (.slice (some ⟨g, 0, none⟩) n c) (rows.set k x) ∧ (∃ z, wr.cell? ⟨g, k, none⟩ = some z) ∧ wr.frozen? ⟨g, k, none⟩ = false := by
  obtain ⟨vals, ⟨hlen, ho⟩, hr⟩ := h.st.out
  rcases ho with ⟨e, -⟩ | ⟨g', cap, cur, e, hb, hC, h1, hm, hs, ht⟩
  · cases e
  · injection e with e1 e2 e3
    injection e1 with e1
    injection e1 with e1
    subst e1 e2 e3
    rw [Nat.mul_one] at hs ht
    have hgl := (Array.getElem?_eq_some_iff.1 hC).1
    have hnew : (wr.setCell ⟨g, k, none⟩ (.slice A m d)).heap[g]? = some (.cells (cur.setIfInBounds k (.slice A m d)) 36 (0, 0)) := by
      rw [setCell_eq]
      simp [mapBlock, Array.getElem?_modify, hC, onCells]
    have hgb : wr.grownBy (wr.setCell ⟨g, k, none⟩ (.slice A m d)) (some g) := ⟨rfl, rfl, rfl, by simp [World.setCell], fun r _ hne => Below.heap_setCell wr ⟨g, k, none⟩ _ r (fun e => hne (by rw [e]))⟩
    have hne : ∀ {r : Nat} {C : Array Value} {fr : Nat × Nat}, wr.heap[r]? = some (.cells C 3 fr) → r ≠ g := fun {r C fr} hc e => by
      subst e
      rw [hC] at hc
      injection hc with h5
      injection h5 with _ h6 _
      exact absurd h6 (by decide)
    have hFg : ∀ r, F r → r < wr.heap.size ∧ some g ≠ some r := fun r hr => by
      obtain ⟨-, h2, C, hc⟩ := h.st.fs r hr
      exact ⟨h2, fun e => hne hc (Option.some.inj e).symm⟩
    have hUg : ∀ r, (Value.slice A m d).ownBlock = some r → w0.heap.size ≤ r ∧ r < wr.heap.size ∧ some g ≠ some r ∧ ∃ C, wr.heap[r]? = some (.cells C 3 (0, 0)) := fun r hr => by
      obtain ⟨h2, C, hc⟩ := owns_block h.row r hr
      exact ⟨h2, (Array.getElem?_eq_some_iff.1 hc).1, fun e => hne hc (Option.some.inj e).symm, C, hc⟩
    have hvl := hr.1
    refine ⟨⟨h.st.below.trans ⟨rfl, rfl, rfl, by simp [World.setCell], fun r hr => Below.heap_setCell wr ⟨g, k, none⟩ _ r (by show r ≠ g; omega)⟩, ⟨vals.set k (.slice A m d), ⟨by rw [List.length_set, List.length_set]; omega, .inr ⟨g, c, _, by rw [List.length_set], hb, hnew, by rw [List.length_set]; exact h1, hm, by simp [hs], ?_⟩⟩, by rw [List.length_set, List.length_set]; exact hvl, fun j hj => ?_⟩, fun r hr => ?_⟩, ⟨cur[k]'(by omega), ?_⟩, by simp [World.frozen?, hC]⟩
    · rw [List.length_set, Nat.mul_one, Array.toList_setIfInBounds, List.take_set, ht]
    · rw [List.length_set] at hj
      by_cases e : k = j
      · subst e
        refine ⟨.slice A m d, by rw [List.getElem?_set_self (by omega)], ?_⟩
        rw [show (rows.set k x).getD k [] = x by simp [List.getD_eq_getElem?_getD, hj]]
        have h7 := IntsF.of_own h.row hf
        exact (h7.keep fun r hr => hgb.block r (hUg r hr).2.1 (fun e => (hUg r hr).2.2.1 e.symm)).mono fun r hr => .inr hr
      · obtain ⟨u, hu, hx⟩ := hr.2 j hj
        refine ⟨u, by rw [List.getElem?_set_ne e]; exact hu, ?_⟩
        rw [show (rows.set k x).getD j [] = rows.getD j [] by simp [List.getD_eq_getElem?_getD, List.getElem?_set_ne e]]
        exact (hx.keep (Ag.grown hgb hFg)).mono fun r hr => .inl hr
    · rcases hr with hr | hr
      · obtain ⟨a1, a2, C, hc⟩ := h.st.fs r hr
        exact ⟨a1, Nat.lt_of_lt_of_le a2 hgb.size, C, grown_cells hgb hc (hFg r hr).2⟩
      · obtain ⟨a1, a2, a3, C, hc⟩ := hUg r hr
        exact ⟨a1, Nat.lt_of_lt_of_le a2 hgb.size, C, grown_cells hgb hc a3⟩
    · rw [cell_of_row _ _ _ _ _ _ hC]
      exact Array.getElem?_eq_getElem _
/-- the first k words are replaced -/
def repTo (G l : List (List Int)) (k : Nat) : List (List Int) := (l.take k).map (sbW G) ++ List.replicate (l.length - k) []
theorem repTo_len (G l : List (List Int)) {k : Nat} (hk : k ≤ l.length) : (repTo G l k).length = l.length := by
  unfold repTo
  rw [List.length_append, List.length_map, List.length_take, List.length_replicate]
  omega
theorem repTo_succ (G l : List (List Int)) {k : Nat} (hk : k < l.length) : (repTo G l k).set k (sbW G (l.getD k [])) = repTo G l (k + 1) := by
  unfold repTo
  have e : l.getD k [] = l[k] := by simp [List.getD_eq_getElem?_getD, hk]
  obtain ⟨m, hm⟩ : ∃ m, l.length - k = m + 1 := ⟨l.length - k - 1, by omega⟩
  rw [e, hm, show l.length - (k + 1) = m by omega, List.set_append_right _ _ (by rw [List.length_map, List.length_take]; omega), List.length_map, List.length_take, Nat.min_eq_left (by omega), Nat.sub_self, List.replicate_succ, List.set_cons_zero, List.take_succ_eq_append_getElem hk, List.map_append, List.append_assoc]
  rfl
theorem repTo_all (G l : List (List Int)) : repTo G l l.length = l.map (sbW G) := by
  unfold repTo
  rw [List.take_length, Nat.sub_self]
  simp
theorem sbL_bad {G l : List (List Int)} {k : Nat} (hk : k < l.length) (h : ¬ (sbW G (l.getD k [])).length ≤ 4000) : sbL G l = none := by
  unfold sbL
  rw [if_neg]
  intro ha
  refine h ?_
  have := List.all_eq_true.1 ha (l.getD k []) (by rw [List.getD_eq_getElem?_getD, List.getElem?_eq_getElem hk]; exact List.getElem_mem hk)
  exact of_decide_eq_true this
theorem sbL_good {G l : List (List Int)} (h : ∀ k, k < l.length → (sbW G (l.getD k [])).length ≤ 4000) : sbL G l = some (l.map (sbW G)) := by
  unfold sbL
  rw [if_pos]
  rw [List.all_eq_true]
  intro z hz
  obtain ⟨i, hi, rfl⟩ := List.getElem_of_mem hz
  have := h i hi
  rw [List.getD_eq_getElem?_getD, List.getElem?_eq_getElem hi] at this
  exact decide_eq_true this
/-- all words of a list are replaced -/
def RepPost (G l : List (List Int)) (w : World) (e : Ending) (w' : World) : Prop :=
  (match sbL G l with
  | none => e = .returned (.tuple #[.slice none 0 0, .int .i64 4])
  | some m => ∃ A c F, e = .returned (.tuple #[.slice A m.length c, .int .i64 0]) ∧ OutSt 36 F w w' (.slice A m.length c) m) ∧ Below w.heap.size w w'
set_option maxRecDepth 100000 in
set_option maxHeartbeats 4000000 in
theorem replace24_ok (w : World) (u v : Value) (l G : List (List Int)) (hu : Tab w u l) (hG : Tab w v G) (hll : l.length ≤ 1000) (hwl : ∀ j, j < l.length → (l.getD j []).length ≤ 4000) (hok : ∀ j, j < l.length → ∀ x ∈ l.getD j [], Mild x ∧ x ≠ 0 ∧ x.natAbs ≤ G.length) (hm : ∀ j, ∀ y ∈ G.getD j [], Mild y) (hl : ∀ j, (G.getD j []).length ≤ 1000) : Calls Tryz.prog 31 #[u, v] w (RepPost G l w) := by
  obtain ⟨Ag, cg, rfl⟩ := Tab.form hG
  obtain ⟨Al, cl, rfl⟩ := Tab.form hu
  have HSUB : Hid (∀ W z uz, Below w.heap.size w W → IntsAt W uz z → z.length ≤ 4000 → (∀ x ∈ z, Mild x ∧ x ≠ 0 ∧ x.natAbs ≤ G.length) → Calls Tryz.prog 70 #[uz, .slice Ag G.length cg] W (SubPost (sbW G z) W)) := Lib.hid fun W z uz hb h1 h2 h3 => subst42_ok W uz _ z G h1 (kept_tab.below hG hb) h2 h3 hm hl
  have HU := Lib.hid hu
  have HWL := Lib.hid hwl
  have HOK := Lib.hid hok
  have HMM := Lib.hid hm
  have hl0 : (0 : Int) ≤ (l.length : Int) := Int.natCast_nonneg _
  have hl1 : (l.length : Int) ≤ 1000 := by omega
  have HMK := Lib.hid (makeW w l.length (by omega))
  have HST := Lib.hid (OutSt.made w w (Below.refl _ _) l.length (by omega))
  clear hu hG hwl hok hm hl
  go_enter Tryz.func31, Tryz.ntmps31
  go_wp2_with ((with_reducible refine wpList_sel 13 ?_); refine wpList_val rfl (r_make 22 (.tmp 12) (.tmp 12) rfl rfl rfl HMK.out) ?_)
  generalize hw1 : w.alloc (.cells (Array.replicate l.length (.slice none 0 0)) 36) = w1 at *
  have HW1 := Lib.hid hw1
  clear hw1 HMK
  go_loopw [7, 8, 9, 10, 16, 21, 22, 23, 24, 25, 26] (fun _ _ _ _ z _ _ _ _ _ _ wr => ∃ (k : Nat) (F : Nat → Prop), k ≤ l.length ∧ z = .int .i64 k ∧ (∀ j, j < k → (sbW G (l.getD j [])).length ≤ 4000) ∧ Hid (OutSt 36 F w wr (.slice (some ⟨w.heap.size, 0, none⟩) l.length l.length) (repTo G l k))) (fun _ _ _ _ z _ _ _ _ _ _ _ => l.length - (intOf z).toNat)
  case atStart => exact ⟨0, _, Nat.zero_le _, rfl, fun j hj => absurd hj (by omega), Lib.hid (by unfold repTo; exact HST.out)⟩
  case round =>
    clear HST
    obtain ⟨k, F, hk, rfl, hz, HS⟩ := hrel
    have HZ := Lib.hid hz
    clear hz
    have hk0 : (0 : Int) ≤ (k : Int) := Int.natCast_nonneg _
    by_cases hlt : k < l.length
    · have hlt' : (k : Int) < (l.length : Int) := by omega
      obtain ⟨A', c', e', t1, t2, t3⟩ := (kept_tab.below HU.out HS.out.below).open_
      injection e' with e1 _ e3
      subst e1 e3
      obtain ⟨b, o, rfl, hcc⟩ := t3 (by omega)
      obtain ⟨uz, huz, hI⟩ := hcc k hlt
      have HC : Hid (Calls Tryz.prog 70 #[uz, .slice Ag G.length cg] wr (SubPost (sbW G (l.getD k [])) wr)) := Lib.hid (HSUB.out wr _ uz HS.out.below hI (HWL.out k hlt) (HOK.out k hlt))
      have HBAD := Lib.hid (fun h => sbL_bad (G := G) hlt h)
      have HSET := Lib.hid (repTo_succ G l hlt)
      have HFT : Hid (Fits (sbW G (l.getD k []))) := Lib.hid (Mild.fits (sbTo_mild HMM.out _ _))
      have hrl := repTo_len G l (k := k) (by omega)
      obtain ⟨Au, cu, rfl, -⟩ := hI.open_
      unfold SubPost at HC
      clear hcc hI t1 t2 t3
      generalize (l.getD k []).length = lz at *
      generalize hS : sbW G (l.getD k []) = S at *
      have HSE := Lib.hid hS
      clear hS
      by_cases hS : S.length ≤ 4000
      · simp only [if_pos hS] at HC
        have HSL := Lib.hid hS
        clear hS
        go_wp2_with (go_at_call 70; (refine HC.out.mono ?_); rintro e w2 ⟨⟨A5, c5, rfl, ho⟩, hb⟩
                     obtain ⟨hP, ⟨z, hcz⟩, hfz⟩ := (HS.out.with_row hb ho).put HFT.out (k := k) (by omega)
                     rw [HSET.out] at hP
                     have HP := Lib.hid hP
                     clear hP ho hb)
        go_roundw
        case rel => exact ⟨k + 1, _, by omega, by go_num, all_succ HZ.out (by rw [HSE.out]; exact HSL.out), Lib.hid HP.out⟩
        case measure => simp [intOf]; omega
      · simp only [if_neg hS] at HC
        have HE := Lib.hid (HBAD.out hS)
        clear hS
        go_wp2_with (go_at_call 70; (refine HC.out.mono ?_); rintro e w2 ⟨rfl, hb⟩)
        go_ret2
        refine ⟨?_, HS.out.below.trans (hb.mono HS.out.below.size)⟩
        rw [HE.out]
        rfl
    · obtain rfl : k = l.length := by omega
      have HE := Lib.hid (sbL_good HZ.out)
      rw [repTo_all] at HS
      go_wp2_with fail
      go_ret2
      refine ⟨?_, HS.out.below⟩
      rw [HE.out]
      have hml : (l.map (sbW G)).length = l.length := List.length_map _
      exact ⟨_, l.length, F, by rw [hml]; rfl, by rw [hml]; exact HS.out⟩
end Go.Proofs
namespace Go.Proofs
open Go.RowKit Go.Shelf Go.Lib Go.Sort Go.Proofs.Ct Go.Proofs.Tz Go.Maps
theorem call22 (args : Array Value) (w : World) : (callFunc 29 args).run Tryz.prog w = .ok (.enter 29 args) w := enters_of Tryz.func29 (by kernel_rfl) rfl args w
theorem call21 (args : Array Value) (w : World) : (callFunc 28 args).run Tryz.prog w = .ok (.enter 28 args) w := enters_of Tryz.func28 (by kernel_rfl) rfl args w
/-- what an elimination answers -/
def ElimPost (n : Nat) (rels : List (List Int)) (rel gen : Nat) (w : World) (e : Ending) (w' : World) : Prop :=
  (match elimE n rels rel gen with
  | .inr x => e = .returned (.tuple #[.agg #[.int .i64 0, .slice none 0 0], .slice none 0 0, .int .i64 x])
  | .inl (l, im) => ∃ A c F B d G, e = .returned (.tuple #[.agg #[.int .i64 ((n : Int) - 1), .slice A l.length c], .slice B im.length d, .int .i64 0]) ∧ OutSt 36 F w w' (.slice A l.length c) l ∧ OutSt 36 G w w' (.slice B im.length d) im) ∧ Below w.heap.size w w'
theorem results_27 {fn : Func} {p q r : Tmp} (h : fn.results = #[.cell p 24, .tmp q, .tmp r]) (tmps : Array Value) (w : World) (g : Nat) (cs : Array Value) (u v : Value)
    (hp : tmps.getD p undef = .pointer (some ⟨g, 0, none⟩)) (hq : tmps.getD q undef = u) (hr : tmps.getD r undef = v) (hg : w.heap[g]? = some (.cells cs 24 (0, 0))) (hs : cs.size = 2) :
    (results fn tmps).run Tryz.prog w = .ok (.tuple #[.agg cs, u, v]) w := by
  have hp' : tmps[p]?.getD undef = .pointer (some ⟨g, 0, none⟩) := by simpa using hp
  have hq' : tmps[q]?.getD undef = u := by simpa using hq
  have hr' : tmps[r]?.getD undef = v := by simpa using hr
  simp [results, h, hp', hq', hr', asAddr, run_loadVar_row w g 24 24 cs (0, 0) _ hg Tryz.underlying24 rfl (by rw [hs]; exact info40s)]
/-- the two boxes of the call -/
structure ElBox (w w0 : World) (n : Nat) (Ar : Option Addr) (cr m : Nat) : Prop where
  below : Below w.heap.size w w0
  size : w0.heap.size = w.heap.size + 2
  arg : w0.heap[w.heap.size]? = some (.cells #[.int .i64 (n : Int), .slice Ar m cr] 24 (0, 0))
  res : w0.heap[w.heap.size + 1]? = some (.cells zero40 24 (0, 0))
theorem ElBox.at_ {w w0 W : World} {n m cr : Nat} {Ar : Option Addr} (h : ElBox w w0 n Ar cr m) (hb : Below w0.heap.size w0 W) :
    (W.cell? ⟨w.heap.size, 0, none⟩ = some (.int .i64 (n : Int)) ∧ W.cell? ⟨w.heap.size, 1, none⟩ = some (.slice Ar m cr)) ∧ W.heap[w.heap.size]? = some (.cells #[.int .i64 (n : Int), .slice Ar m cr] 24 (0, 0)) ∧ W.heap[w.heap.size + 1]? = some (.cells zero40 24 (0, 0)) := by
  have h1 := (hb.block _ (Array.getElem?_eq_some_iff.1 h.arg).1).trans h.arg
  have h2 := (hb.block _ (Array.getElem?_eq_some_iff.1 h.res).1).trans h.res
  exact ⟨cell_of2 h1, h1, h2⟩
theorem ElBox.new (w : World) (n : Nat) (Ar : Option Addr) (cr m : Nat) : ElBox w ((w.alloc (.cells #[.int .i64 (n : Int), .slice Ar m cr] 24)).alloc (.cells zero40 24)) n Ar cr m := by
  refine ⟨((Below.refl _ _).alloc (Nat.le_refl _) _).alloc (by simp) _, by simp, ?_, ?_⟩
  · exact (Below.heap_alloc (w.alloc _) _ w.heap.size (by simp)).trans (heap_alloc_new w _)
  · have := heap_alloc_new (w.alloc (.cells #[.int .i64 (n : Int), .slice Ar m cr] 24)) (.cells zero40 24); rwa [World.size_alloc] at this
set_option maxRecDepth 100000 in
set_option maxHeartbeats 4000000 in
/-- no elimination: the generator does not occur once, or is the only one -/
theorem elim6_no (w : World) (vr : Value) (n : Nat) (rels : List (List Int)) (rel gen : Nat) (hR : Tab w vr rels) (he : presE n rels = 0) (hr : rel < rels.length) (hg : 1 ≤ gen ∧ gen ≤ n) (hno : n = 1 ∨ onceW (rels.getD rel []) gen = none) : Calls Tryz.prog 9 #[.agg #[.int .i64 (n : Int), vr], .int .i64 (rel : Int), .int .i64 (gen : Int)] w (ElimPost n rels rel gen w) := by
  obtain ⟨Ar, cr, rfl⟩ := Tab.form hR
  have H19 : Hid (∀ W, Tab W (.slice Ar rels.length cr) rels → Calls Tryz.prog 26 #[.agg #[.int .i64 (n : Int), .slice Ar rels.length cr]] W fun e w' => (∃ y, e = .returned (.tuple #[.int .i64 0, .int .i64 y])) ∧ Below W.heap.size W w') := Lib.hid fun W h => by
    have := pcheck78_any W _ (n : Int) rels h
    unfold PresPost at this
    rw [he] at this
    exact this
  obtain ⟨gn, hgn, hg1, hg2, hln, -⟩ := presE_good he
  obtain rfl : n = gn := by omega
  clear hgn
  have hE : elimE n rels rel gen = .inr 13 := by
    unfold elimE
    cases ho : onceW (rels.getD rel []) gen with
    | none => rfl
    | some k =>
      rcases hno with h | h
      · simp [h]
      · rw [ho] at h; cases h
  have HE := Lib.hid hE
  have HN := Lib.hid hno
  have HBN := Lib.hid (ElBox.new w n Ar cr rels.length)
  have HRR := Lib.hid hR
  have hr0 : (0 : Int) ≤ (rel : Int) := Int.natCast_nonneg _
  have hrl : (rel : Int) < (rels.length : Int) := by omega
  have hrd : decide ((rel : Int) < 0) = false := decide_eq_false (by omega)
  have hrd2 : decide ((rels.length : Int) ≤ (rel : Int)) = false := decide_eq_false (by omega)
  have hgd : decide ((gen : Int) < 1) = false := decide_eq_false (by omega)
  have hgd2 : decide ((n : Int) < (gen : Int)) = false := decide_eq_false (by omega)
  clear hR he hE hno
  by_cases hn1 : n = 1
  · have hbn : ((n : Int) == 1) = true := by rw [hn1]; rfl
    have HOI := Lib.hid hn1
    clear hn1
    go_enter Tryz.func9, Tryz.ntmps9
    go_wp2_with ((with_reducible refine wpList_sel 6 ?_); refine wpList_val rfl (r_alloc40 rfl) ?_)
    generalize hw0 : (w.alloc (.cells #[.int .i64 (n : Int), .slice Ar rels.length cr] 24)).alloc (.cells zero40 24) = w0 at *
    have HBX := Lib.hid fun W (hb : Below w0.heap.size w0 W) => HBN.out.at_ hb
    have HB0 := Lib.hid HBN.out.below
    have HBP := Lib.hid HBN.out.arg
    have HR0 := Lib.hid (kept_tab.below HRR.out HB0.out)
    clear hw0 HRR
    go_wp2_with (first
      | ((with_reducible refine wpList_sel 20 ?_); refine wpList_val rfl (r_loadAt 24 (.tmp 3) _ _ rfl rfl (load40 HBP.out)) ?_)
      | (go_at_call 26; (with_reducible refine (H19.out w0 HR0.out).mono ?_); rintro e w1 ⟨⟨y, rfl⟩, hb⟩
         have HB1 := Lib.hid hb
         obtain ⟨⟨p1, q1⟩, x1, x2⟩ := HBX.out _ hb
         have hR1 := kept_tab.below HR0.out hb
         obtain ⟨A', c', e', t1, t2, t3⟩ := hR1.open_
         injection e' with e1 _ e3
         subst e1 e3
         obtain ⟨b, o, rfl, hcc⟩ := t3 (by omega)
         obtain ⟨u, hu, hI⟩ := hcc rel hr
         obtain ⟨Au, cu, rfl, -⟩ := hI.open_
         have HO := Lib.hid (once20_any w1 _ _ (gen : Int) (by omega) hI)
         have HX2 := Lib.hid x2
         clear x1 x2 hb hR1 t1 t2 t3 hcc hI
         generalize (rels.getD rel []).length = lx at *)
      | (go_at_call 27
         refine HO.out.mono ?_
         rintro e w2 ⟨rfl, hb2⟩
         have HB2 := Lib.hid (HB1.out.trans (hb2.mono HB1.out.size))
         obtain ⟨⟨p2, q2⟩, x1, x2⟩ := HBX.out _ HB2.out
         have HX3 := Lib.hid x2
         clear p1 q1 x1 x2 hu hb2 HO
         first | rw [HOI.out] | generalize onceI (rels.getD rel []) gen = oi at *)
      | ((with_reducible refine wpList_sel 63 ?_); refine wpList_val rfl (r_build40 rfl) ?_; refine wpList_skip rfl (r_store40 (.tmp 6) (.tmp 63) rfl (w.heap.size + 1) zero40 zero40 rfl rfl HX3.out rfl rfl zero40_one) ?_))
    try simp only [Exit.inBlock, Exit.then]
    exact bodyPost_ret (results_27 (p := 6) (q := 7) (r := 8) rfl _ _ (w.heap.size + 1) zero40 (.slice none 0 0) (.int .i64 13) rfl rfl rfl (setRow_heap _ _ _ _ _ _ HX3.out) rfl) rfl ⟨by rw [HE.out]; rfl, below_setRow (HB0.out.trans (HB2.out.mono HB0.out.size)) (Nat.le_succ _) _⟩
  · have hbn : ((n : Int) == 1) = false := beq_eq_false_iff_ne.2 (by omega)
    have HOI : Hid (onceI (rels.getD rel []) gen = -1) := Lib.hid (by
      have h := HN.out.resolve_left hn1
      unfold onceI
      rw [h])
    clear hn1
    go_enter Tryz.func9, Tryz.ntmps9
    go_wp2_with ((with_reducible refine wpList_sel 6 ?_); refine wpList_val rfl (r_alloc40 rfl) ?_)
    generalize hw0 : (w.alloc (.cells #[.int .i64 (n : Int), .slice Ar rels.length cr] 24)).alloc (.cells zero40 24) = w0 at *
    have HBX := Lib.hid fun W (hb : Below w0.heap.size w0 W) => HBN.out.at_ hb
    have HB0 := Lib.hid HBN.out.below
    have HBP := Lib.hid HBN.out.arg
    have HR0 := Lib.hid (kept_tab.below HRR.out HB0.out)
    clear hw0 HRR
    go_wp2_with (first
      | ((with_reducible refine wpList_sel 20 ?_); refine wpList_val rfl (r_loadAt 24 (.tmp 3) _ _ rfl rfl (load40 HBP.out)) ?_)
      | (go_at_call 26; (with_reducible refine (H19.out w0 HR0.out).mono ?_); rintro e w1 ⟨⟨y, rfl⟩, hb⟩
         have HB1 := Lib.hid hb
         obtain ⟨⟨p1, q1⟩, x1, x2⟩ := HBX.out _ hb
         have hR1 := kept_tab.below HR0.out hb
         obtain ⟨A', c', e', t1, t2, t3⟩ := hR1.open_
         injection e' with e1 _ e3
         subst e1 e3
         obtain ⟨b, o, rfl, hcc⟩ := t3 (by omega)
         obtain ⟨u, hu, hI⟩ := hcc rel hr
         obtain ⟨Au, cu, rfl, -⟩ := hI.open_
         have HO := Lib.hid (once20_any w1 _ _ (gen : Int) (by omega) hI)
         have HX2 := Lib.hid x2
         clear x1 x2 hb hR1 t1 t2 t3 hcc hI
         generalize (rels.getD rel []).length = lx at *)
      | (go_at_call 27
         refine HO.out.mono ?_
         rintro e w2 ⟨rfl, hb2⟩
         have HB2 := Lib.hid (HB1.out.trans (hb2.mono HB1.out.size))
         obtain ⟨⟨p2, q2⟩, x1, x2⟩ := HBX.out _ HB2.out
         have HX3 := Lib.hid x2
         clear p1 q1 x1 x2 hu hb2 HO
         first | rw [HOI.out] | generalize onceI (rels.getD rel []) gen = oi at *)
      | ((with_reducible refine wpList_sel 63 ?_); refine wpList_val rfl (r_build40 rfl) ?_; refine wpList_skip rfl (r_store40 (.tmp 6) (.tmp 63) rfl (w.heap.size + 1) zero40 zero40 rfl rfl HX3.out rfl rfl zero40_one) ?_))
    try simp only [Exit.inBlock, Exit.then]
    exact bodyPost_ret (results_27 (p := 6) (q := 7) (r := 8) rfl _ _ (w.heap.size + 1) zero40 (.slice none 0 0) (.int .i64 13) rfl rfl rfl (setRow_heap _ _ _ _ _ _ HX3.out) rfl) rfl ⟨by rw [HE.out]; rfl, below_setRow (HB0.out.trans (HB2.out.mono HB0.out.size)) (Nat.le_succ _) _⟩
end Go.Proofs
namespace Go.Proofs
open Go.RowKit Go.Shelf Go.Lib Go.Sort Go.Proofs.Ct Go.Proofs.Tz Go.Maps
/-- what a slot of the region holds -/
inductive SlE where
  | eq (v : Value) | ints (l : List Int)
def SlE.holds : SlE → Value → World → Prop
  | .eq u, v, _ => v = u
  | .ints l, v, w => ∃ A c, v = .slice A l.length c ∧ IntsAt w v l
theorem SlE.keep {s : SlE} {v : Value} {w w' : World} (h : Below w.heap.size w w') : s.holds v w → s.holds v w' := by
  cases s with
  | eq u => exact id
  | ints l => exact fun ⟨A, c, e, k⟩ => ⟨A, c, e, k.below h⟩
theorem r_add1 {o : Oper} {a : Act} {w : World} (x : Operand) (k : Nat) (ho : o.op = .binOp .add 3 x (.const (.int .i64 1)) 3) (hx : a.eval x = .int .i64 (k : Int)) (hk : k ≤ 1000000) : (execOp a.eval o).run Tryz.prog w = .ok (.value (.int .i64 ((k + 1 : Nat) : Int))) w := by
  have hw : IntKind.i64.wrap ((k : Int) + 1) = ((k + 1 : Nat) : Int) := by simp [IntKind.wrap, IntKind.bits, IntKind.signed]; omega
  have hc : a.eval (.const (.int .i64 1)) = .int .i64 1 := rfl
  unfold execOp
  simp only [ho, hx, hc]
  simp [go_sem, hw]
theorem once_lt {x : List Int} {g : Int} {k : Nat} (h : onceW x g = some k) : k < x.length := by
  unfold onceW at h
  split at h
  · rename_i hc
    obtain rfl := Option.some.inj h
    rw [List.findIdx_lt_length]
    have : 0 < x.countP (isG g) := by omega
    exact List.countP_pos_iff.1 this
  · cases h
set_option maxRecDepth 100000 in
set_option maxHeartbeats 4000000 in
/-- the image is too long -/
theorem elim6_long (w : World) (vr : Value) (n : Nat) (rels : List (List Int)) (rel gen k : Nat) (hR : Tab w vr rels) (he : presE n rels = 0) (hr : rel < rels.length) (hg : 1 ≤ gen ∧ gen ≤ n) (hn1 : n ≠ 1) (hon : onceW (rels.getD rel []) gen = some k) (hlong : 1000 < (imgW (rels.getD rel []) k).length) : Calls Tryz.prog 9 #[.agg #[.int .i64 (n : Int), vr], .int .i64 (rel : Int), .int .i64 (gen : Int)] w (ElimPost n rels rel gen w) := by
  obtain ⟨Ar, cr, rfl⟩ := Tab.form hR
  have H19 : Hid (∀ W, Tab W (.slice Ar rels.length cr) rels → Calls Tryz.prog 26 #[.agg #[.int .i64 (n : Int), .slice Ar rels.length cr]] W fun e w' => (∃ y, e = .returned (.tuple #[.int .i64 0, .int .i64 y])) ∧ Below W.heap.size W w') := Lib.hid fun W h => by
    have := pcheck78_any W _ (n : Int) rels h
    unfold PresPost at this
    rw [he] at this
    exact this
  obtain ⟨gn, hgn, hg1, hg2, hln, hall⟩ := presE_good he
  obtain rfl : n = gn := by omega
  clear hgn
  have hE : elimE n rels rel gen = .inr 4 := by
    unfold elimE
    rw [hon]
    simp only [if_neg hn1, if_pos hlong]
  have HE := Lib.hid hE
  have hmr : ∀ z ∈ rels.getD rel [], Mild z := mild_ok (by omega) (hall rel hr).1
  have HMR := Lib.hid hmr
  have hlr := (hall rel hr).2
  have hkr : k < (rels.getD rel []).length := once_lt hon
  have HOI : Hid (onceI (rels.getD rel []) gen = k) := Lib.hid (by unfold onceI; rw [hon])
  have HLONG := Lib.hid hlong
  have H22 : Hid (∀ W u (x : List Int), IntsAt W u x → (∀ z ∈ x, Mild z) → x.length ≤ 1000000 → Calls Tryz.prog 29 #[u] W fun e w'' => ∃ v, e = .returned v ∧ ((∃ A c, v = .slice A (invW x).length c ∧ IntsAt w'' v (invW x)) ∧ Below W.heap.size W w'')) := Lib.hid fun W u x h1 h2 h3 => (invert72_any W u x h1 h2 (by omega)).mono fun e w'' ⟨A, c, e1, h4, h5⟩ => ⟨_, e1, ⟨A, c, rfl, OwnI.ints h4 (Mild.fits fun z hz => mild_inv' h2 z (Ct.red_mem hz))⟩, h5⟩
  have H21 : Hid (∀ W u v (x y : List Int), IntsAt W u x → IntsAt W v y → (∀ z ∈ x, Mild z) → (∀ z ∈ y, Mild z) → x.length + y.length ≤ 1000000 → Calls Tryz.prog 28 #[u, v] W fun e w'' => ∃ v, e = .returned v ∧ ((∃ A c, v = .slice A (mulW x y).length c ∧ IntsAt w'' v (mulW x y)) ∧ Below W.heap.size W w'')) := Lib.hid fun W u v x y h1 h2 h3 h4 h5 => (mul41_any W u v x y h1 h2 h3 h4 (by omega)).mono fun e w'' ⟨A, c, e1, h6, h7⟩ => ⟨_, e1, ⟨A, c, rfl, OwnI.ints h6 (Mild.fits fun z hz => mild_app h3 h4 z (Ct.red_mem hz))⟩, h7⟩
  have HBN := Lib.hid (ElBox.new w n Ar cr rels.length)
  have HRR := Lib.hid hR
  have hr0 : (0 : Int) ≤ (rel : Int) := Int.natCast_nonneg _
  have hrl : (rel : Int) < (rels.length : Int) := by omega
  have hrd : decide ((rel : Int) < 0) = false := decide_eq_false (by omega)
  have hrd2 : decide ((rels.length : Int) ≤ (rel : Int)) = false := decide_eq_false (by omega)
  have hgd : decide ((gen : Int) < 1) = false := decide_eq_false (by omega)
  have hgd2 : decide ((n : Int) < (gen : Int)) = false := decide_eq_false (by omega)
  have hbn : ((n : Int) == 1) = false := beq_eq_false_iff_ne.2 (by omega)
  have hk0 : (0 : Int) ≤ (k : Int) := Int.natCast_nonneg _
  have hkd : decide ((k : Int) < 0) = false := decide_eq_false (by omega)
  clear hR he hE hn1 hon hall hmr hlong
  have HIM : Hid (imgW (rels.getD rel []) k = if (rels.getD rel []).getD k 0 < 0 then invW (mulW (invW ((rels.getD rel []).take k)) (invW ((rels.getD rel []).drop (k + 1)))) else mulW (invW ((rels.getD rel []).take k)) (invW ((rels.getD rel []).drop (k + 1)))) := Lib.hid rfl
  have HLT : Hid (((rels.getD rel []).take k).length ≤ 1000000) := Lib.hid (by rw [List.length_take]; omega)
  have HLD : Hid (((rels.getD rel []).drop (k + 1)).length ≤ 1000000) := Lib.hid (by rw [List.length_drop]; omega)
  have HM1 : Hid (∀ z ∈ invW ((rels.getD rel []).take k), Mild z) := Lib.hid fun z hz => mild_inv' (fun y hy => HMR.out y (List.mem_of_mem_take hy)) z (Ct.red_mem hz)
  have HM2 : Hid (∀ z ∈ invW ((rels.getD rel []).drop (k + 1)), Mild z) := Lib.hid fun z hz => mild_inv' (fun y hy => HMR.out y (List.mem_of_mem_drop hy)) z (Ct.red_mem hz)
  have HL12 : Hid ((invW ((rels.getD rel []).take k)).length + (invW ((rels.getD rel []).drop (k + 1))).length ≤ 1000000) := Lib.hid (by
    have h1 := red_length (inv ((rels.getD rel []).take k))
    have h2 := red_length (inv ((rels.getD rel []).drop (k + 1)))
    rw [length_inv, List.length_take] at h1
    rw [length_inv, List.length_drop] at h2
    unfold invW
    omega)
  have HMV : Hid (∀ z ∈ mulW (invW ((rels.getD rel []).take k)) (invW ((rels.getD rel []).drop (k + 1))), Mild z) := Lib.hid fun z hz => mild_app HM1.out HM2.out z (Ct.red_mem hz)
  have HLV : Hid ((mulW (invW ((rels.getD rel []).take k)) (invW ((rels.getD rel []).drop (k + 1)))).length ≤ 1000000) := Lib.hid (by
    have h1 := red_length (invW ((rels.getD rel []).take k) ++ invW ((rels.getD rel []).drop (k + 1)))
    rw [List.length_append] at h1
    have := HL12.out
    unfold mulW
    omega)
  go_enter Tryz.func9, Tryz.ntmps9
  go_wp2_with ((with_reducible refine wpList_sel 6 ?_); refine wpList_val rfl (r_alloc40 rfl) ?_)
  generalize hw0 : (w.alloc (.cells #[.int .i64 (n : Int), .slice Ar rels.length cr] 24)).alloc (.cells zero40 24) = w0 at *
  have HBX := Lib.hid fun W (hb : Below w0.heap.size w0 W) => HBN.out.at_ hb
  have HB0 := Lib.hid HBN.out.below
  have HBP := Lib.hid HBN.out.arg
  have HR0 := Lib.hid (kept_tab.below HRR.out HB0.out)
  clear hw0 HRR
  go_wp2_with (first
    | ((with_reducible refine wpList_sel 20 ?_); refine wpList_val rfl (r_loadAt 24 (.tmp 3) _ _ rfl rfl (load40 HBP.out)) ?_)
    | (go_at_call 26; (with_reducible refine (H19.out w0 HR0.out).mono ?_); rintro e w1 ⟨⟨y, rfl⟩, hb⟩
       have HB1 := Lib.hid hb
       obtain ⟨⟨p1, q1⟩, x1, x2⟩ := HBX.out _ hb
       have hR1 := kept_tab.below HR0.out hb
       obtain ⟨A', c', e', t1, t2, t3⟩ := hR1.open_
       injection e' with e1 _ e3
       subst e1 e3
       obtain ⟨b, o, rfl, hcc⟩ := t3 (by omega)
       obtain ⟨u, hu, hI⟩ := hcc rel hr
       obtain ⟨Au, cu, rfl, u1, u2, u3⟩ := hI.open_
       obtain ⟨bu, ou, rfl, hcu⟩ := u3 (by omega)
       have HCU := Lib.hid (hcu k hkr)
       have HI := Lib.hid hI
       obtain ⟨A1, hs1, hi1⟩ := ints_cut hI (k := 0) (h := k) (by omega) (by omega)
       obtain ⟨A2, hs2, hi2⟩ := ints_cut hI (k := k + 1) (h := (rels.getD rel []).length) (by omega) (Nat.le_refl _)
       rw [List.take_length] at hi2
       rw [List.drop_zero] at hi1
       simp only [Nat.sub_zero] at hs1 hi1
       have hkc : k ≤ cu := by omega
       have hkx : k + 1 ≤ (rels.getD rel []).length := hkr
       have HS1 := Lib.hid hs1
       have HS2 := Lib.hid hs2
       have HI1 := Lib.hid hi1
       have HI2 := Lib.hid hi2
       have HO := Lib.hid (once20_any w1 _ _ (gen : Int) (by omega) hI)
       have HX2 := Lib.hid x2
       clear x1 x2 hb hR1 t1 t2 t3 hcc hI u2 u3 hcu hs1 hs2 hi1 hi2
       generalize (rels.getD rel []).length = lx at *)
    | (go_at_call 27
       refine HO.out.mono ?_
       rintro e w2 ⟨rfl, hb2⟩
       rw [HOI.out]
       have HB2 := Lib.hid (HB1.out.trans (hb2.mono HB1.out.size))
       have HB12 := Lib.hid hb2
       obtain ⟨⟨p2, q2⟩, x1, x2⟩ := HBX.out _ HB2.out
       clear p1 q1 hu hb2 HO x1 x2))
  refine (wpIn_wide (n := 3)).1 ?_
  refine wpIn_region_all (by kernel_rfl) 11 rfl (fun i => if i < 10 then some (64 + i) else some 13) (lex_of (by kernel_rfl)) (fun _ W => Below w1.heap.size w1 W)
    (fun i v W => (([.eq (.slice (some ⟨bu, ou, none⟩) lx cu), .eq (.int .i64 (k : Int)), .eq (.slice A1 k cu), .ints (invW ((rels.getD rel []).take k)), .eq (.slice (some ⟨bu, ou, none⟩) lx cu), .eq (.int .i64 (k : Int)), .eq (.int .i64 ((k + 1 : Nat) : Int)), .eq (.slice A2 (lx - (k + 1)) (cu - (k + 1))), .ints (invW ((rels.getD rel []).drop (k + 1))), .ints (mulW (invW ((rels.getD rel []).take k)) (invW ((rels.getD rel []).drop (k + 1)))), .ints (mulW (invW ((rels.getD rel []).take k)) (invW ((rels.getD rel []).drop (k + 1))))] : List SlE).getD i (.eq undef)).holds v W)
    (fun _ W W' => Below W.heap.size W W') (dm_inj (by kernel_rfl)) (fun i j v W W' _ _ _ h => SlE.keep h) (dm_lt (n := 145) (by kernel_rfl)) (HB12.out.trans ((Below.refl w2.heap.size w2).drew.mono HB12.out.size)) ?_ ?_
  · intro ls q o a w3 hq ho hS hls hcl hP hpre
    have hcases : q = 0 ∨ q = 1 ∨ q = 2 ∨ q = 3 ∨ q = 4 ∨ q = 5 ∨ q = 6 ∨ q = 7 ∨ q = 8 ∨ q = 9 ∨ q = 10 := by
      have : q < 11 := hq
      omega
    rcases hcases with rfl | rfl | rfl | rfl | rfl | rfl | rfl | rfl | rfl | rfl | rfl
    · obtain rfl := Option.some.inj ho
      exact wpOpIn_of rfl rfl (wpW_val (r_move (.tmp 11) rfl (hP.out 11 (dm_out (by kernel_rfl)))) ⟨_, rfl, hS, Below.refl _ _, (fun h => by simp at h), rfl⟩)
    · obtain rfl := Option.some.inj ho
      exact wpOpIn_of rfl rfl (wpW_val (r_move (.tmp 12) rfl (hP.out 12 (dm_out (by kernel_rfl)))) ⟨_, rfl, hS, Below.refl _ _, (fun h => by simp at h), rfl⟩)
    · obtain rfl := Option.some.inj ho
      exact wpOpIn_of rfl rfl (wpW_val ((run_sl_hi under24w size24w (.tmp 64) (.tmp 65) (some ⟨bu, ou, none⟩) lx cu k rfl (hpre ⟨0, .data⟩ (by simp) rfl).2 (hpre ⟨1, .data⟩ (by simp) rfl).2 hkc).trans (congrArg (fun v => Result.ok (Next.value v) _) HS1.out)) ⟨_, rfl, hS, Below.refl _ _, (fun h => by simp at h), rfl⟩)
    · obtain rfl := Option.some.inj ho
      exact wpOpIn_of rfl rfl (wpW_call (r_call1 (.tmp 66) _ _ rfl (hpre ⟨2, .data⟩ (by simp) rfl).2 call22) (H22.out w3 _ _ (HI1.out.below hS) (fun z hz => HMR.out z (List.mem_of_mem_take hz)) HLT.out) fun v w4 hR => ⟨v, rfl, hS.trans (hR.2.mono hS.size), hR.2, (fun h => by simp at h), hR.1⟩)
    · obtain rfl := Option.some.inj ho
      exact wpOpIn_of rfl rfl (wpW_val (r_move (.tmp 11) rfl (hP.out 11 (dm_out (by kernel_rfl)))) ⟨_, rfl, hS, Below.refl _ _, (fun h => by simp at h), rfl⟩)
    · obtain rfl := Option.some.inj ho
      exact wpOpIn_of rfl rfl (wpW_val (r_move (.tmp 12) rfl (hP.out 12 (dm_out (by kernel_rfl)))) ⟨_, rfl, hS, Below.refl _ _, (fun h => by simp at h), rfl⟩)
    · obtain rfl := Option.some.inj ho
      exact wpOpIn_of rfl rfl (wpW_val (r_add1 (.tmp 69) k rfl (hpre ⟨5, .data⟩ (by simp) rfl).2 (by omega)) ⟨_, rfl, hS, Below.refl _ _, (fun h => by simp at h), rfl⟩)
    · obtain rfl := Option.some.inj ho
      exact wpOpIn_of rfl rfl (wpW_val ((run_sl_lo under24w size24w (.tmp 68) (.tmp 70) (some ⟨bu, ou, none⟩) lx cu (k + 1) rfl (hpre ⟨4, .data⟩ (by simp) rfl).2 (hpre ⟨6, .data⟩ (by simp) rfl).2 hkx).trans (congrArg (fun v => Result.ok (Next.value v) _) HS2.out)) ⟨_, rfl, hS, Below.refl _ _, (fun h => by simp at h), rfl⟩)
    · obtain rfl := Option.some.inj ho
      exact wpOpIn_of rfl rfl (wpW_call (r_call1 (.tmp 71) _ _ rfl (hpre ⟨7, .data⟩ (by simp) rfl).2 call22) (H22.out w3 _ _ (HI2.out.below hS) (fun z hz => HMR.out z (List.mem_of_mem_drop hz)) HLD.out) fun v w4 hR => ⟨v, rfl, hS.trans (hR.2.mono hS.size), hR.2, (fun h => by simp at h), hR.1⟩)
    · obtain rfl := Option.some.inj ho
      obtain ⟨B1, d1, e1, g1⟩ := (hpre ⟨3, .data⟩ (by simp) rfl).2
      obtain ⟨B2, d2, e2, g2⟩ := (hpre ⟨8, .data⟩ (by simp) rfl).2
      exact wpOpIn_of rfl rfl (wpW_call (r_call2 (.tmp 67) (.tmp 72) _ _ _ rfl rfl rfl call21) (H21.out w3 _ _ _ _ g1 g2 HM1.out HM2.out HL12.out) fun v w4 hR => ⟨v, rfl, hS.trans (hR.2.mono hS.size), hR.2, (fun h => by simp at h), hR.1⟩)
    · obtain rfl := Option.some.inj ho
      exact wpOpIn_of rfl rfl (wpW_val (r_assign (.tmp 73) rfl rfl) ⟨_, rfl, hS, Below.refl _ _, (fun h => by simp at h), (hpre ⟨9, .data⟩ (by simp) rfl).2⟩)
  · intro ls a w3 hall hS hP hsl
    obtain ⟨A5, c5, e5, g5⟩ := hsl 10 (by decide)
    obtain ⟨vs, hvs, hfr⟩ := hP.frame 145 rfl
    have e6 : vs 13 = .slice A5 (mulW (invW ((rels.getD rel []).take k)) (invW ((rels.getD rel []).drop (k + 1)))).length c5 := (hvs 13).trans e5
    rw [e5] at g5
    have HV0 := Lib.hid g5
    have HBS := Lib.hid hS
    have HBW := Lib.hid (HB1.out.trans (hS.mono HB1.out.size))
    obtain ⟨-, x1, x2⟩ := HBX.out _ HBW.out
    have HX3 := Lib.hid x2
    have hcz := (HBS.out.cell (p := ⟨bu, ou + k, none⟩) (World.block_lt_of_cell? _ _ HCU.out)).trans HCU.out
    clear hsl hP hall hvs p2 q2 g5 hS x1 x2 e5
    subst hfr
    simp only [List.range, List.range.loop, List.map_cons, List.map_nil, List.any_cons, List.any_nil, Nat.reduceAdd, Nat.reduceBEq, Nat.reduceLT, Option.some_beq_some, Bool.or_false, if_true, if_false, List.getD_cons_zero, List.getD_cons_succ, Bool.or_true, Bool.false_eq_true]
    rw [e6]
    generalize mulW (invW ((rels.getD rel []).take k)) (invW ((rels.getD rel []).drop (k + 1))) = V0 at *
    generalize (rels.getD rel []).getD k 0 = z at *
    have hv0 : (0 : Int) ≤ (V0.length : Int) := Int.natCast_nonneg _
    have hv1 : (V0.length : Int) ≤ 1000000 := by have := HLV.out; omega
    by_cases hz : z < 0
    · have HV := Lib.hid (H22.out w3 _ V0 HV0.out HMV.out HLV.out)
      have hbig : (1000 : Int) < ((invW V0).length : Int) := by have h1 := HIM.out; rw [if_pos hz] at h1; have h2 := HLONG.out; rw [h1] at h2; omega
      go_wp2_with (first
        | (go_at_call 29; (refine HV.out.mono ?_); rintro e w4 ⟨v, rfl, ⟨A6, c6, rfl, h6⟩, hb4⟩
           have HX4 := Lib.hid (HBX.out _ (HBW.out.trans (hb4.mono HBW.out.size))).2.2
           have HB4 := Lib.hid (HBW.out.trans (hb4.mono HBW.out.size))
           clear h6 hb4)
        | ((with_reducible refine wpList_sel 84 ?_); refine wpList_val rfl (r_build40 rfl) ?_; refine wpList_skip rfl (r_store40 (.tmp 6) (.tmp 84) rfl (w.heap.size + 1) zero40 zero40 rfl rfl HX4.out rfl rfl zero40_one) ?_))
      try simp only [Exit.inBlock, Exit.then]
      exact bodyPost_ret (results_27 (p := 6) (q := 7) (r := 8) rfl _ _ (w.heap.size + 1) zero40 (.slice none 0 0) (.int .i64 4) rfl rfl rfl (setRow_heap _ _ _ _ _ _ HX4.out) rfl) rfl ⟨by rw [HE.out]; rfl, below_setRow (HB0.out.trans (HB4.out.mono HB0.out.size)) (Nat.le_succ _) _⟩
    · have hbig : (1000 : Int) < (V0.length : Int) := by have h1 := HIM.out; rw [if_neg hz] at h1; have h2 := HLONG.out; rw [h1] at h2; omega
      go_wp2_with ((with_reducible refine wpList_sel 84 ?_); refine wpList_val rfl (r_build40 rfl) ?_; refine wpList_skip rfl (r_store40 (.tmp 6) (.tmp 84) rfl (w.heap.size + 1) zero40 zero40 rfl rfl HX3.out rfl rfl zero40_one) ?_)
      try simp only [Exit.inBlock, Exit.then]
      exact bodyPost_ret (results_27 (p := 6) (q := 7) (r := 8) rfl _ _ (w.heap.size + 1) zero40 (.slice none 0 0) (.int .i64 4) rfl rfl rfl (setRow_heap _ _ _ _ _ _ HX3.out) rfl) rfl ⟨by rw [HE.out]; rfl, below_setRow (HB0.out.trans (HBW.out.mono HB0.out.size)) (Nat.le_succ _) _⟩
end Go.Proofs
namespace Go.Proofs
open Go.RowKit Go.Shelf Go.Lib Go.Sort Go.Proofs.Ct Go.Proofs.Tz Go.Maps
theorem sumTo_lenTo (l : List (List Int)) : ∀ k, k ≤ l.length → sumTo l k = lenTo l k
  | 0, _ => by unfold lenTo lenL; simp [sumTo, foldTo]
  | k + 1, hk => by rw [sumTo_succ, sumTo_lenTo l k (by omega), lenTo_succ l (by omega)]
theorem presE_of {g : Nat} {l : List (List Int)} (hg : 1 ≤ g ∧ g ≤ 16) (hl : l.length ≤ 100) (hok : ∀ w ∈ l, LOk g w) (hs : lenL l ≤ 4000) : presE (g : Int) l = 0 := by
  refine presE_none hg hl fun j hj => ?_
  have h1 : ¬ 4000 < sumTo l (j + 1) := by
    rw [sumTo_lenTo l (j + 1) (by omega)]
    have := lenTo_le l (j + 1)
    omega
  refine presBad_ok h1 ?_
  rw [List.any_eq_false]
  intro x hx
  have hm : l.getD j [] ∈ l := by rw [List.getD_eq_getElem?_getD, List.getElem?_eq_getElem hj]; exact List.getElem_mem hj
  have := hok _ hm x hx
  unfold letBad
  simp
  omega
theorem mem_getD {α : Type} {l : List (List α)} {j : Nat} {x : α} (h : x ∈ l.getD j []) : l.getD j [] ∈ l := by
  rcases Nat.lt_or_ge j l.length with hj | hj
  · rw [List.getD_eq_getElem?_getD, List.getElem?_eq_getElem hj]; exact List.getElem_mem hj
  · rw [List.getD_eq_getElem?_getD, List.getElem?_eq_none hj] at h; cases h
/-- what is known of an elimination that is made -/
structure ElimOk (n : Nat) (rels : List (List Int)) (rel gen k : Nat) : Prop where
  imgs : ∀ w ∈ imgsW n gen (imgW (rels.getD rel []) k), LOk (n - 1) w
  len : (imgW (rels.getD rel []) k).length ≤ 1000 → ∀ j, ((imgsW n gen (imgW (rels.getD rel []) k)).getD j []).length ≤ 1000
  mild : ∀ j, ∀ y ∈ (imgsW n gen (imgW (rels.getD rel []) k)).getD j [], Mild y
  rest : ∀ j, j < (rels.eraseIdx rel).length → ((rels.eraseIdx rel).getD j []).length ≤ 4000 ∧ ∀ x ∈ (rels.eraseIdx rel).getD j [], Mild x ∧ x ≠ 0 ∧ x.natAbs ≤ n
  many : (rels.eraseIdx rel).length ≤ 100
  pres : ∀ l, sbL (imgsW n gen (imgW (rels.getD rel []) k)) (rels.eraseIdx rel) = some l → lenL l ≤ 4000 → presE ((n - 1 : Nat) : Int) l = 0
theorem elim_ok {n : Nat} {rels : List (List Int)} {rel gen k : Nat} (he : presE (n : Int) rels = 0) (hr : rel < rels.length) (hg : 1 ≤ gen ∧ gen ≤ n) (hn1 : n ≠ 1) (hon : onceW (rels.getD rel []) gen = some k) : ElimOk n rels rel gen k := by
  obtain ⟨gn, hgn, hg1, hg2, hln, hall⟩ := presE_good he
  obtain rfl : n = gn := by omega
  have hI := imgs_ok hg (hall rel hr).1 hon
  have hmem : ∀ z ∈ rels.eraseIdx rel, LOk n z ∧ z.length ≤ 4000 := fun z hz => by
    obtain ⟨i, hi, rfl⟩ := List.getElem_of_mem (List.mem_of_mem_eraseIdx hz)
    have := hall i hi
    rw [List.getD_eq_getElem?_getD, List.getElem?_eq_getElem hi] at this
    exact this
  have hmany : (rels.eraseIdx rel).length ≤ 100 := by
    have := List.length_eraseIdx_le rels rel
    omega
  refine ⟨hI, fun hv j => ?_, fun j y hy => ?_, fun j hj => ?_, hmany, fun l hl hs => ?_⟩
  · rcases Nat.lt_or_ge j n with hj | hj
    · rw [imgs_get hj]
      split
      · unfold lowW; rw [List.length_map]; exact hv
      · unfold lowW; rw [List.length_map]; simp
    · rw [List.getD_eq_getElem?_getD, List.getElem?_eq_none (by rw [length_imgs]; exact hj)]
      exact Nat.zero_le _
  · exact mild_ok (by omega) (hI _ (mem_getD hy)) y hy
  · have hm : (rels.eraseIdx rel).getD j [] ∈ rels.eraseIdx rel := by rw [List.getD_eq_getElem?_getD, List.getElem?_eq_getElem hj]; exact List.getElem_mem hj
    refine ⟨(hmem _ hm).2, fun x hx => ?_⟩
    have h1 := (hmem _ hm).1 x hx
    exact ⟨mild_ok (by omega) (hmem _ hm).1 x hx, h1.2.2, by omega⟩
  · obtain ⟨rfl, -⟩ := sbL_some hl
    refine presE_of ⟨by omega, by omega⟩ (by rw [List.length_map]; exact hmany) (fun z hz => ?_) hs
    obtain ⟨y, -, rfl⟩ := List.mem_map.1 hz
    exact sbTo_ok hI y _
end Go.Proofs
