/- (*coset.state).table; (*coset.state).table: the walk; coset.Enumerate: its results' cells, and the closure that it defers; coset.Enumerate: what it answers, and how its results are read; The reference's Begin and Given. -/
import Derived.Test.YtcfighimnkfmeaaCkCS11
import Derived.Defers
import Derived.Recover
import Derived.Test.YtcfighimnkfmeaaCkCS8
namespace Go.Proofs.Ct
/-- the numbers of the live cosets below k -/
def nmL (s : St) (k : Nat) : List Int := (List.range s.t.length).map fun i => if i < k ∧ s.rp i = i then (num s i : Int) else 0
theorem length_nmL (s : St) (k : Nat) : (nmL s k).length = s.t.length := by simp [nmL]
theorem nmL_getD (s : St) (k : Nat) {i : Nat} (h : i < s.t.length) : (nmL s k).getD i 0 = if i < k ∧ s.rp i = i then (num s i : Int) else 0 := by
  unfold nmL
  simp [List.getD_eq_getElem?_getD, h]
theorem nmL_zero (s : St) : nmL s 0 = List.replicate s.t.length 0 := getD_ext (d := 0) (by simp [length_nmL]) fun i hi => by
  rw [length_nmL] at hi
  rw [nmL_getD s 0 hi, if_neg (by omega)]
  simp [List.getD_eq_getElem?_getD, hi]
theorem nmL_live {s : St} {k : Nat} (h : k < s.t.length) (hl : s.rp k = k) : nmL s (k + 1) = (nmL s k).set k (num s k) := getD_ext (d := 0) (by simp [length_nmL]) fun i hi => by
  rw [length_nmL] at hi
  rw [nmL_getD s _ hi, getD_set, length_nmL]
  by_cases e : k = i
  · subst e; rw [if_pos ⟨by omega, hl⟩, if_pos ⟨rfl, h⟩]
  · rw [if_neg (fun h' : k = i ∧ k < s.t.length => e h'.1), nmL_getD s _ hi]
    by_cases h2 : i < k ∧ s.rp i = i
    · rw [if_pos h2, if_pos ⟨by omega, h2.2⟩]
    · rw [if_neg h2, if_neg (fun h' => h2 ⟨by omega, h'.2⟩)]
theorem nmL_dead {s : St} {k : Nat} (hl : s.rp k ≠ k) : nmL s (k + 1) = nmL s k := getD_ext (d := 0) (by simp [length_nmL]) fun i hi => by
  rw [length_nmL] at hi
  rw [nmL_getD s _ hi, nmL_getD s _ hi]
  by_cases h2 : i < k ∧ s.rp i = i
  · rw [if_pos h2, if_pos ⟨by omega, h2.2⟩]
  · rw [if_neg h2, if_neg (fun h' => h2 ⟨by
      rcases Nat.lt_or_ge i k with h3 | h3
      · exact h3
      · obtain rfl : i = k := by omega
        exact absurd h'.2 hl, h'.2⟩)]
/-- the rows of the live cosets below k -/
def tabTo (s : St) (k : Nat) : Tb := (livTo s k).map fun x => (s.t.row x).map fun v => (num s v.toNat : Int)
theorem tabTo_live {s : St} {k : Nat} (hl : s.rp k = k) : tabTo s (k + 1) = tabTo s k ++ [(s.t.row k).map fun v => (num s v.toNat : Int)] := by
  unfold tabTo
  rw [livTo_succ, if_pos hl, List.map_append]
  rfl
theorem tabTo_dead {s : St} {k : Nat} (hl : s.rp k ≠ k) : tabTo s (k + 1) = tabTo s k := by
  unfold tabTo
  rw [livTo_succ, if_neg hl]
theorem length_tabTo (s : St) (k : Nat) : (tabTo s k).length = (livTo s k).length := by simp [tabTo]
/-- a list whose first c elements are turned -/
def mixTo (f : Int → Int) (x : List Int) (c : Nat) : List Int := (x.take c).map f ++ x.drop c
theorem length_mix (f : Int → Int) (x : List Int) (c : Nat) : (mixTo f x c).length = x.length := by simp [mixTo]; omega
theorem mix_zero (f : Int → Int) (x : List Int) : mixTo f x 0 = x := by simp [mixTo]
theorem mix_all (f : Int → Int) (x : List Int) : mixTo f x x.length = x.map f := by simp [mixTo]
theorem mix_getD (f : Int → Int) (x : List Int) (c : Nat) {i : Nat} (h : i < x.length) : (mixTo f x c).getD i 0 = if i < c then f (x.getD i 0) else x.getD i 0 := by
  unfold mixTo
  rw [List.getD_eq_getElem?_getD, List.getElem?_append]
  by_cases h2 : i < c
  · rw [if_pos (by simp; omega), if_pos h2]
    simp [List.getD_eq_getElem?_getD, h, h2]
  · rw [if_neg (by simp; omega), if_neg h2]
    simp [List.getD_eq_getElem?_getD, Nat.min_eq_left (by omega : c ≤ x.length), show c + (i - c) = i by omega]
theorem mix_set (f : Int → Int) (x : List Int) {c : Nat} (h : c < x.length) : mixTo f x (c + 1) = (mixTo f x c).set c (f (x.getD c 0)) := getD_ext (d := 0) (by simp [length_mix]) fun i hi => by
  rw [length_mix] at hi
  rw [mix_getD f x _ hi, getD_set, length_mix]
  by_cases e : c = i
  · subst e; rw [if_pos (by omega), if_pos ⟨rfl, h⟩]
  · rw [if_neg (fun h' : c = i ∧ c < x.length => e h'.1), mix_getD f x _ hi]
    by_cases h2 : i < c
    · rw [if_pos h2, if_pos (by omega)]
    · rw [if_neg h2, if_neg (by omega)]
end Go.Proofs.Ct
namespace Go.Proofs
open Go.RowKit Go.Shelf Go.Proofs.Ct Go.Maps
theorem OutSt2.set {e : TypeId} (he : e ≠ 3) {F : Nat → Prop} {w0 wr : World} {vout vr : Value} {rows : List (List Int)} {x : List Int} (h : OutSt2 e F w0 wr vout vr rows x) {g k : Nat} (hg : vr.ownBlock = some g) (hk : k < x.length) (z : Int) : OutSt2 e F w0 (wr.setCell ⟨g, k, none⟩ (.int .i64 z)) vout vr rows (x.set k z) := by
  obtain ⟨h1, C, hC⟩ := owns_block h.row g hg
  refine ⟨h.st.grown (grown_setCell wr g k _) fun r hr => ?_, ownI_set h.row hg hk z, h.ap⟩
  obtain rfl : g = r := Option.some.inj hr
  refine ⟨h1, h.ap g hg, fun e' => ?_⟩
  obtain ⟨-, C', hC'⟩ := h.st.out.block g e'
  rw [hC] at hC'
  injection hC' with h5
  injection h5 with _ h6 _
  exact he h6.symm
theorem eqnil24_none (w : World) (n c : Nat) : (binOp .eql 24 (.slice none n c) (.slice none 0 0)).run Try.prog w = .ok (.bool true) w := by kernel_rfl
theorem eqnil24_some (w : World) (a : Addr) (n c : Nat) : (binOp .eql 24 (.slice (some a) n c) (.slice none 0 0)).run Try.prog w = .ok (.bool false) w := by kernel_rfl
set_option maxRecDepth 100000 in
theorem clone129_any (w : World) (v : Value) (xs : List Int) (h : IntsAt w v xs) (hl : xs.length ≤ 1000000) :
    Calls Try.prog 129 #[v] w fun e w' => ∃ A c, e = .returned (.slice A xs.length c) ∧ OwnI w.heap.size w' (.slice A xs.length c) xs ∧ Below w.heap.size w w' := by
  obtain ⟨A0, c0, w', hr, hb, ho⟩ := run_copy Try.underlying24 h hl
  have HR := Lib.hid hr
  have HB := Lib.hid hb
  have HO := Lib.hid ho
  obtain ⟨A, cap, rfl, hcap, hmax, hc⟩ := h.open_
  cases A with
  | none =>
    have h0 : xs = [] := by
      rcases Nat.eq_zero_or_pos xs.length with h0 | h0
      · exact List.length_eq_zero_iff.1 h0
      · obtain ⟨b, off, hx, -⟩ := hc h0
        cases hx
    clear hr hb ho hc h HR HB HO
    subst h0
    have hq := eqnil24_none w
    go_enter Try.func129, Try.ntmps129
    go_wp2_with fail
    go_ret
    exact ⟨none, 0, rfl, World.ownsRow_nil _ _ _ _, Below.refl _ _⟩
  | some a =>
    clear hr hb ho hc h
    have hq := eqnil24_some w
    go_enter Try.func129, Try.ntmps129
    go_wp2_with ((with_reducible refine wpList_sel 7 ?_); refine wpList_val rfl (r_app (.tmp 5) (.tmp 6) 24 rfl rfl rfl HR.out) ?_)
    go_ret
    exact ⟨_, _, rfl, HO.out, HB.out⟩
/-- the rows of a state -/
theorem StP.rowAt {g base b m lim : Nat} {w : World} {s : St} (hI : Inv g s) (hn : s.t.length ≤ 1000000) (h : StP base b m lim w s) {r : Nat} (hr : r < s.t.length) : ∃ gr cr br k, w.cell? ⟨b, 2, none⟩ = some (.slice (some ⟨gr, 0, none⟩) s.t.length cr) ∧ w.cell? ⟨gr, r, none⟩ = some (.slice (some ⟨br, 0, none⟩) (2 * g) k) ∧ IntsAt w (.slice (some ⟨br, 0, none⟩) (2 * g) k) (s.t.row r) := by
  obtain ⟨-, P, vr, vp, vq, bl, cs, hB, hC⟩ := h
  obtain ⟨-, hX, h1, h2⟩ := hC.row r hr
  have hlen := hI.len r hr
  have hfit : Fits (s.t.row r) := fun x hx => by
    obtain ⟨c, hc, rfl⟩ := List.mem_iff_getElem.1 hx
    have := hI.bd r hr c (by omega)
    unfold Tb.at at this
    rw [List.getD_eq_getElem?_getD, List.getElem?_eq_getElem hc] at this
    simp at this
    omega
  obtain ⟨hl, ho⟩ := hC.out
  rcases ho with ⟨-, h0⟩ | ⟨gr, cap, cur, rfl, hb, hCr, h3, hm, hs, ht⟩
  · omega
  · refine ⟨gr, cap, bl r, cs r, hB.cells.2.2.1, ?_, hX.ints hlen (by omega) h2 hfit⟩
    rw [cell_of_row _ _ _ _ _ _ hCr]
    have h2 : (cur.toList.take (s.t.length * 1))[r]? = ((List.range s.t.length).map fun i => Value.slice (some ⟨bl i, 0, none⟩) (s.t.row i).length (cs i))[r]? := by rw [ht]
    rw [List.getElem?_take, if_pos (by omega)] at h2
    simpa [hr, hlen] using h2
theorem StP.rows0 {base b m lim : Nat} {w : World} {s : St} (h : StP base b m lim w s) (h1 : 0 < s.t.length) : ∃ gr c, w.cell? ⟨b, 2, none⟩ = some (.slice (some ⟨gr, 0, none⟩) s.t.length c) := by
  obtain ⟨-, P, vr, vp, vq, bl, cs, hB, hC⟩ := h
  rcases hC.out.2 with ⟨-, h0⟩ | ⟨gr, cap, cur, rfl, -⟩
  · omega
  · exact ⟨gr, cap, hB.cells.2.2.1⟩
end Go.Proofs
namespace Go.Proofs
open Go.RowKit Go.Shelf Go.Proofs.Ct Go.Maps
theorem xs_made (w : World) (s : St) : XsAt (w.alloc (.cells (Array.replicate s.t.length (.int .i64 0)) 3)) w.heap.size (nmL s 0) := by
  refine ⟨_, heap_alloc_new w _, by simp [length_nmL], fun k hk => ?_⟩
  rw [length_nmL] at hk
  rw [nmL_zero]
  simp [List.getD_eq_getElem?_getD, hk]
theorem fits_tab {g lim : Nat} {s : St} (_hG : Ct.Good g lim s) (hn : s.t.length ≤ 20000) (x : List Int) (hx : ∀ v ∈ x, v.toNat ≤ s.t.length) : Fits (x.map fun v => (num s v.toNat : Int)) := fun z hz => by
  obtain ⟨v, hv, rfl⟩ := List.mem_map.1 hz
  have := livTo_le s v.toNat
  have := hx v hv
  show -9223372036854775808 ≤ ((num s v.toNat : Nat) : Int) ∧ ((num s v.toNat : Nat) : Int) ≤ 9223372036854775807
  unfold num
  omega
theorem row_addr {base : Nat} {w : World} {A : Option Addr} {n c : Nat} {xs : List Int} (h : OwnI base w (.slice A n c) xs) (h0 : 0 < xs.length) : ∃ g, A = some ⟨g, 0, none⟩ := by
  obtain ⟨g, c', e, -⟩ := ownI_cell h h0
  injection e with e1 e2 e3
  exact ⟨g, e1⟩
set_option maxRecDepth 100000 in
set_option maxHeartbeats 4000000 in
theorem table86_any (g m base b lim : Nat) (hm : m = 2 * g) (hg : g ≤ 16) (hg1 : 1 ≤ g) (w : World) (s : St) (hS : StP base b m lim w s) (hG : Ct.Good g lim s) (hC : Comp g s s.t.length) (hlim : lim ≤ 20000) :
    Calls Try.prog 86 #[.pointer (some ⟨b, 0, none⟩)] w fun e w' => ∃ u, e = .returned u ∧ Tab w' u (tabS s) ∧ Below w.heap.size w w' := by
  have hn : s.t.length ≤ 20000 := Nat.le_trans hG.n2 hlim
  have hn1 := hG.n1
  have hn0 : (s.t.length : Int) ≤ 20000 := by omega
  have hn2 : (0 : Int) ≤ (s.t.length : Int) := Int.natCast_nonneg _
  obtain ⟨gr, cr, hrows⟩ := hS.rows0 hn1
  have HRO := Lib.hid hrows
  have HS := Lib.hid hS
  have HG := Lib.hid hG
  have HC := Lib.hid hC
  have HM := Lib.hid hm
  have HR1 : Hid ((Instr.makeSlice 24 (.int .i64 (s.t.length : Int)) (.int .i64 (s.t.length : Int))).run Try.prog w = .ok (.slice (some ⟨w.heap.size, 0, none⟩) s.t.length s.t.length) (w.alloc (.cells (Array.replicate s.t.length (.int .i64 0)) 3))) := Lib.hid (make24r w _ (by omega))
  have HX1 := Lib.hid (xs_made w s)
  have HB1 : Hid (Below w.heap.size w (w.alloc (.cells (Array.replicate s.t.length (.int .i64 0)) 3))) := Lib.hid ((Below.refl _ _).alloc (Nat.le_refl _) _)
  generalize w.alloc (.cells (Array.replicate s.t.length (.int .i64 0)) 3) = W1 at *
  have hrows1 := (HB1.out.cell (p := ⟨b, 2, none⟩) (World.block_lt_of_cell? w _ hrows)).trans hrows
  clear hS hG hC hm
  go_enter Try.func86, Try.ntmps86
  go_wp2_with ((with_reducible refine wpList_sel 16 ?_); refine wpList_val rfl (r_make 24 (.tmp 15) (.tmp 15) rfl rfl rfl HR1.out) ?_)
  go_loopg [4, 22] s.t.length (fun n v i wr => ∃ k : Nat, i = .int .i64 (k : Int) ∧ n = s.t.length - k ∧ k ≤ s.t.length ∧ v = .int .i64 ((num s k : Nat) : Int) ∧ Hid (XsAt wr w.heap.size (nmL s k)) ∧ Hid (Below w.heap.size w wr))
  case atStart => exact ⟨0, rfl, by omega, Nat.zero_le _, rfl, HX1, HB1⟩
  case round =>
    clear hrows hrows1 HX1 HB1
    obtain ⟨k, rfl, hgk, hk, rfl, HX, HB⟩ := hrel
    have HGK := Lib.hid hgk
    clear hgk
    have hk0 : (0 : Int) ≤ (k : Int) := Int.natCast_nonneg _
    have hnk : num s k ≤ k := livTo_le s k
    have hnk0 : (0 : Int) ≤ ((num s k : Nat) : Int) := Int.natCast_nonneg _
    have hnk1 : ((num s k : Nat) : Int) ≤ 20000 := by omega
    have hrowsk := (HB.out.cell (p := ⟨b, 2, none⟩) (World.block_lt_of_cell? w _ HRO.out)).trans HRO.out
    by_cases hlt : k < s.t.length
    · have hltI : (k : Int) < (s.t.length : Int) := by omega
      have HAL := Lib.hid (alive127_any g base b m lim k _ s (HS.out.below HB.out) hlt)
      by_cases hal : s.rp k = k
      · have HAT : Hid (decide (s.rp k = k) = true) := Lib.hid (by simp [hal])
        have HNL : Hid (nmL s (k + 1) = (nmL s k).set k (num s k)) := Lib.hid (nmL_live hlt hal)
        have HNK : Hid (num s (k + 1) = num s k + 1) := Lib.hid (by
          unfold num
          rw [livTo_succ, if_pos hal]
          simp)
        have hcx := HX.out.cell (k := k) (by rw [length_nmL]; exact hlt)
        have hfx := HX.out.frozen k
        have HX2 := Lib.hid (HX.out.set (k := k) (by rw [length_nmL]; exact hlt) (num s k))
        clear hal
        go_wp2_with (first
          | (go_at_call 127; (with_reducible refine HAL.out.mono ?_); rintro E w2 ⟨rfl, rfl⟩; rw [HAT.out]))
        go_roundg (s.t.length - (k + 1))
        case measure => have := HGK.out; omega
        case rel => exact ⟨k + 1, by go_num, rfl, by omega, by rw [HNK.out]; go_num, Lib.hid (by rw [HNL.out]; exact HX2.out), Lib.hid (HB.out.grown (grown_setCell _ _ _ _) HB.out.size (fun k hk => by cases hk; exact Nat.le_refl _))⟩
      · have HAT : Hid (decide (s.rp k = k) = false) := Lib.hid (by simp [hal])
        have HNL : Hid (nmL s (k + 1) = nmL s k) := Lib.hid (nmL_dead hal)
        have HNK : Hid (num s (k + 1) = num s k) := Lib.hid (by
          unfold num
          rw [livTo_succ, if_neg hal])
        clear hal
        go_wp2_with (first
          | (go_at_call 127; (with_reducible refine HAL.out.mono ?_); rintro E w2 ⟨rfl, rfl⟩; rw [HAT.out]))
        go_roundg (s.t.length - (k + 1))
        case measure => have := HGK.out; omega
        case rel => exact ⟨k + 1, by go_num, rfl, by omega, by rw [HNK.out], Lib.hid (by rw [HNL.out]; exact HX.out), HB⟩
    · obtain rfl : k = s.t.length := by omega
      rename World => W2
      clear hlt
      have HST : Hid (OutSt 24 (fun _ => False) W2 W2 (.slice none 0 0) (tabTo s 0)) := Lib.hid (OutSt.nil 24 (Below.refl _ _))
      have HXN := HX
      have HBN := HB
      go_wp2_with fail
      go_loopg [6, 40] s.t.length (fun n v i wr => ∃ k : Nat, i = .int .i64 (k : Int) ∧ n = s.t.length - k ∧ k ≤ s.t.length ∧ ∃ (F : Nat → Prop) (A : Option Addr) (c : Nat), v = .slice A (tabTo s k).length c ∧ Hid (OutSt 24 F W2 wr (.slice A (tabTo s k).length c) (tabTo s k)))
      case atStart => exact ⟨0, rfl, by omega, Nat.zero_le _, _, none, 0, rfl, HST⟩
      case round =>
        clear HST HX HB HGK hnk hnk0 hnk1 hk0 hk hrowsk
        obtain ⟨k, rfl, hgk, hk, F, A, cA, rfl, HO⟩ := hrel
        have HGK := Lib.hid hgk
        clear hgk
        have hk0 : (0 : Int) ≤ (k : Int) := Int.natCast_nonneg _
        have HBK := Lib.hid (HBN.out.trans (HO.out.below.mono HBN.out.size))
        by_cases hlt : k < s.t.length
        · have hltI : (k : Int) < (s.t.length : Int) := by omega
          have hSP := HS.out.below HBK.out
          have HAL := Lib.hid (alive127_any g base b m lim k _ s hSP hlt)
          obtain ⟨gr', cr', br, kc, a1, a2, a3⟩ := hSP.rowAt HG.out.rest.inv (by omega) hlt
          have a0 := (HBK.out.cell (p := ⟨b, 2, none⟩) (World.block_lt_of_cell? w _ HRO.out)).trans HRO.out
          rw [a0] at a1
          injection a1 with a1
          injection a1 with a1 e2 e3
          injection a1 with a1
          injection a1 with a1
          subst a1
          clear e2 e3 a0 hSP
          have HCL := Lib.hid (clone129_any wr _ _ a3 (by rw [HG.out.rest.inv.len k hlt]; omega))
          rw [HG.out.rest.inv.len k hlt] at HCL
          by_cases hal : s.rp k = k
          · have HAT : Hid (decide (s.rp k = k) = true) := Lib.hid (by simp [hal])
            have HTL : Hid (tabTo s (k + 1) = tabTo s k ++ [(s.t.row k).map fun v => (num s v.toNat : Int)]) := Lib.hid (tabTo_live hal)
            have HRW : Hid (∀ c, c < 2 * g → ∃ y : Nat, s.t.at k c = (y : Int) ∧ y < s.t.length ∧ s.rp y = y) := Lib.hid fun c hc => by
              have h0 := HC.out k hlt hlt c hc
              rw [hal] at h0
              obtain ⟨y, hy⟩ := Int.eq_ofNat_of_zero_le h0
              obtain ⟨-, h2, h3⟩ := HG.out.rest.live hlt hc (show Ct.Edge s.t k c y from hy)
              exact ⟨y, hy, h3, h2⟩
            have HRL := Lib.hid (HG.out.rest.inv.len k hlt)
            have HRB : Hid (∀ v ∈ s.t.row k, v.toNat ≤ s.t.length) := Lib.hid fun v hv => by
              obtain ⟨c, hc, rfl⟩ := List.mem_iff_getElem.1 hv
              obtain ⟨y, hy, hy1, -⟩ := HRW.out c (by rw [← HG.out.rest.inv.len k hlt]; exact hc)
              unfold Tb.at at hy
              rw [List.getD_eq_getElem?_getD, List.getElem?_eq_getElem hc] at hy
              simp at hy
              omega
            have HTK := Lib.hid (length_tabTo s k)
            have HLK := Lib.hid (livTo_le s k)
            clear hal a3
            go_wp2_with (first
              | (go_at_call 127; (with_reducible refine HAL.out.mono ?_); rintro E w2 ⟨rfl, rfl⟩; rw [HAT.out])
              | (go_at_call 129; (with_reducible refine HCL.out.mono ?_); rintro E w2 ⟨A3, c3, rfl, ho3, hb3⟩
                 obtain ⟨h3, rfl⟩ : ∃ h3, A3 = some ⟨h3, 0, none⟩ := row_addr ho3 (by rw [HRL.out]; omega)
                 have HO3 : Hid (OutSt2 24 F W2 w2 (.slice A (tabTo s k).length cA) (.slice (some ⟨h3, 0, none⟩) (2 * g) c3) (tabTo s k) (mixTo (fun v => (num s v.toNat : Int)) (s.t.row k) 0)) := Lib.hid (by rw [mix_zero]; exact HO.out.with_row hb3 ho3)
                 clear ho3 hb3))
            go_loopg [53] (2 * g) (fun n i wx => ∃ c : Nat, i = .int .i64 (c : Int) ∧ n = 2 * g - c ∧ c ≤ 2 * g ∧ Hid (OutSt2 24 F W2 wx (.slice A (tabTo s k).length cA) (.slice (some ⟨h3, 0, none⟩) (2 * g) c3) (tabTo s k) (mixTo (fun v => (num s v.toNat : Int)) (s.t.row k) c)))
            case atStart => exact ⟨0, rfl, by omega, Nat.zero_le _, HO3⟩
            case round =>
              clear HO3
              obtain ⟨c, rfl, hgc, hc, HO4⟩ := hrel
              have HGC := Lib.hid hgc
              clear hgc
              have hc0 : (0 : Int) ≤ (c : Int) := Int.natCast_nonneg _
              have hxl : (mixTo (fun v => (num s v.toNat : Int)) (s.t.row k) c).length = 2 * g := by rw [length_mix, HRL.out]
              by_cases hcg : c < 2 * g
              · have hcI : (c : Int) < 2 * (g : Int) := by omega
                obtain ⟨y, hy, hy1, hy2⟩ := HRW.out c hcg
                have hrow := HO4.out.row
                obtain ⟨g', c', e, -, -, hcc, hff⟩ := ownI_cell hrow (by rw [hxl]; omega)
                injection e with e1 e2 e3
                injection e1 with e1
                injection e1 with e1
                subst e1
                have hck := hcc c (by rw [hxl]; exact hcg)
                rw [mix_getD _ _ _ (by rw [HRL.out]; exact hcg), if_neg (Nat.lt_irrefl _)] at hck
                have hyy : (s.t.row k).getD c 0 = (y : Int) := hy
                rw [hyy] at hck
                have hfk := hff c
                have hx2 := (HXN.out.below HO4.out.st.below).cell (k := y) (by rw [length_nmL]; exact hy1)
                rw [nmL_getD s _ hy1, if_pos ⟨hy1, hy2⟩] at hx2
                have HO5 := Lib.hid (HO4.out.set (by decide) (g := h3) (k := c) rfl (by rw [hxl]; exact hcg) (num s y : Int))
                have HMX : Hid (mixTo (fun v => (num s v.toNat : Int)) (s.t.row k) (c + 1) = (mixTo (fun v => (num s v.toNat : Int)) (s.t.row k) c).set c (num s y : Int)) := Lib.hid (by
                  rw [mix_set _ _ (by rw [HRL.out]; exact hcg), hyy, Int.toNat_natCast])
                have hy0 : (0 : Int) ≤ (y : Int) := Int.natCast_nonneg _
                have hyI : (y : Int) < (s.t.length : Int) := by omega
                clear hcc hff hrow e2 e3 hyy hy hxl
                go_wp2_with fail
                go_roundg (2 * g - (c + 1))
                case measure => have := HGC.out; omega
                case rel => exact ⟨c + 1, by go_num, rfl, by omega, Lib.hid (by rw [HMX.out]; exact HO5.out)⟩
              · obtain rfl : c = 2 * g := by omega
                have hS := HO4.out
                rw [← HRL.out, mix_all] at hS
                rw [HRL.out] at hS
                obtain ⟨A8, c8, w8, hr8, hS8⟩ := hS.done (by decide) Try.underlying23 info24p (fits_tab HG.out (by omega) _ HRB.out) (by have := HTK.out; have := HLK.out; omega)
                rw [← HTL.out] at hS8
                have hlen : (tabTo s (k + 1)).length = (tabTo s k).length + 1 := by rw [HTL.out]; simp
                rw [← hlen] at hr8 hS8
                have HR8 := Lib.hid hr8
                have HS8 := Lib.hid hS8
                clear hr8 hS8 hS hlen hxl
                go_wp2_with ((with_reducible refine wpList_sel 70 ?_); refine wpList_val rfl (r_app (.tmp 67) (.tmp 69) 23 rfl rfl rfl HR8.out) ?_)
                go_roundg (s.t.length - (k + 1))
                case measure => have := HGK.out; omega
                case rel => exact ⟨k + 1, by go_num, rfl, by omega, _, A8, c8, rfl, HS8⟩
          · have HAT : Hid (decide (s.rp k = k) = false) := Lib.hid (by simp [hal])
            have HTL : Hid (tabTo s (k + 1) = tabTo s k) := Lib.hid (tabTo_dead hal)
            clear hal a3 HCL
            go_wp2_with (first
              | (go_at_call 127; (with_reducible refine HAL.out.mono ?_); rintro E w2 ⟨rfl, rfl⟩; rw [HAT.out]))
            go_roundg (s.t.length - (k + 1))
            case measure => have := HGK.out; omega
            case rel =>
              have h1 := HO.out
              have h2 := HTL.out
              rw [← h2] at h1 ⊢
              exact ⟨k + 1, by go_num, rfl, by omega, F, A, cA, rfl, Lib.hid h1⟩
        · obtain rfl : k = s.t.length := by omega
          clear hlt
          have HT := Lib.hid HO.out.out.tab
          go_wp2_with fail
          go_ret
          exact ⟨_, rfl, HT.out, HBK.out⟩
end Go.Proofs
namespace Go.Proofs
open Go.RowKit Go.Shelf Go.Proofs.Ct Go.Maps
theorem ta_nil (w : World) : (Instr.typeAssert .nilIface 20 112 true).run Try.prog w = .ok (.tuple #[.agg #[], .bool false]) w := by kernel_rfl
theorem ta_full (w : World) : (Instr.typeAssert (.iface 112 (.agg #[])) 20 112 true).run Try.prog w = .ok (.tuple #[.agg #[], .bool true]) w := by kernel_rfl
theorem alloc112 (w : World) : (Instr.alloc 112 true (.tuple #[])).run Try.prog w = .ok (.pointer (some ⟨w.heap.size, 0, none⟩)) (w.alloc (.cells #[] 112)) := by kernel_rfl
theorem neq_nil (w : World) : (binOp .neq 20 .nilIface .nilIface).run Try.prog w = .ok (.bool false) w := by kernel_rfl
/-- the cells of the three results: the table at q, the numbers at q + 1, the error at q + 1 + 1 -/
structure ResC (q : Nat) (w : World) (v : Value) (a b c e : Int) : Prop where
  c0 : w.cell? ⟨q, 0, none⟩ = some v
  c1 : w.cell? ⟨q + 1, 0, none⟩ = some (.int .i64 a)
  c2 : w.cell? ⟨q + 1, 1, none⟩ = some (.int .i64 b)
  c3 : w.cell? ⟨q + 1, 2, none⟩ = some (.int .i64 c)
  c4 : w.cell? ⟨q + 1 + 1, 0, none⟩ = some (.int .i64 e)
  f0 : w.frozen? ⟨q, 0, none⟩ = false
  f1 : w.frozen? ⟨q + 1, 0, none⟩ = false
  f2 : w.frozen? ⟨q + 1, 1, none⟩ = false
  f3 : w.frozen? ⟨q + 1, 2, none⟩ = false
  f4 : w.frozen? ⟨q + 1 + 1, 0, none⟩ = false
theorem ResC.lt {q : Nat} {w : World} {v : Value} {a b c e : Int} (h : ResC q w v a b c e) : q + 1 + 1 < w.heap.size := World.block_lt_of_cell? w _ h.c4
theorem ResC.below {q : Nat} {w w' : World} {v : Value} {a b c e : Int} (h : ResC q w v a b c e) {B : Nat} (hq : q + 1 + 1 < B) (hb : Below B w w') : ResC q w' v a b c e :=
  ⟨(hb.cell (p := ⟨q, 0, none⟩) (by show q < B; omega)).trans h.c0, (hb.cell (p := ⟨q + 1, 0, none⟩) (by show q + 1 < B; omega)).trans h.c1, (hb.cell (p := ⟨q + 1, 1, none⟩) (by show q + 1 < B; omega)).trans h.c2, (hb.cell (p := ⟨q + 1, 2, none⟩) (by show q + 1 < B; omega)).trans h.c3, (hb.cell (p := ⟨q + 1 + 1, 0, none⟩) hq).trans h.c4,
   (hb.frozen (p := ⟨q, 0, none⟩) (by show q < B; omega)).trans h.f0, (hb.frozen (p := ⟨q + 1, 0, none⟩) (by show q + 1 < B; omega)).trans h.f1, (hb.frozen (p := ⟨q + 1, 1, none⟩) (by show q + 1 < B; omega)).trans h.f2, (hb.frozen (p := ⟨q + 1, 2, none⟩) (by show q + 1 < B; omega)).trans h.f3, (hb.frozen (p := ⟨q + 1 + 1, 0, none⟩) hq).trans h.f4⟩
/-- all five cells written -/
def setR (q : Nat) (w : World) (v : Value) (a b c e : Int) : World := ((((w.setCell ⟨q, 0, none⟩ v).setCell ⟨q + 1, 0, none⟩ (.int .i64 a)).setCell ⟨q + 1, 1, none⟩ (.int .i64 b)).setCell ⟨q + 1, 2, none⟩ (.int .i64 c)).setCell ⟨q + 1 + 1, 0, none⟩ (.int .i64 e)
theorem cell_set {w : World} {a p : Addr} {u : Value} (h : w.cell? p = some u) (v : Value) : (w.setCell a v).cell? p = some (if a = p then v else u) := by
  split
  · rename_i e; subst e; exact World.cell?_setCell_same _ _ _ h
  · rename_i e; rw [World.cell?_setCell_other _ _ _ _ e]; exact h
theorem ResC.set {q : Nat} {w : World} {v : Value} {a b c e : Int} (h : ResC q w v a b c e) (v' : Value) (a' b' c' e' : Int) : ResC q (setR q w v' a' b' c' e') v' a' b' c' e' := by
  obtain ⟨c0, c1, c2, c3, c4, f0, f1, f2, f3, f4⟩ := h
  unfold setR
  refine ⟨(cell_set (cell_set (cell_set (cell_set (cell_set c0 _) _) _) _) _).trans ?_, (cell_set (cell_set (cell_set (cell_set (cell_set c1 _) _) _) _) _).trans ?_, (cell_set (cell_set (cell_set (cell_set (cell_set c2 _) _) _) _) _).trans ?_, (cell_set (cell_set (cell_set (cell_set (cell_set c3 _) _) _) _) _).trans ?_, (cell_set (cell_set (cell_set (cell_set (cell_set c4 _) _) _) _) _).trans ?_, ?_, ?_, ?_, ?_, ?_⟩ <;> simp [f0, f1, f2, f3, f4]
theorem setR_below {B q : Nat} {w w' : World} (h : Below B w w') (hq : B ≤ q) (v : Value) (a b c e : Int) : Below B w (setR q w' v a b c e) :=
  ((((h.setCell (p := ⟨q, 0, none⟩) hq v).setCell (p := ⟨q + 1, 0, none⟩) (by show B ≤ q + 1; omega) _).setCell (p := ⟨q + 1, 1, none⟩) (by show B ≤ q + 1; omega) _).setCell (p := ⟨q + 1, 2, none⟩) (by show B ≤ q + 1; omega) _).setCell (p := ⟨q + 1 + 1, 0, none⟩) (by show B ≤ q + 1 + 1; omega) _
set_option maxRecDepth 100000 in
theorem catch84_idle (p q r : Addr) (w : World) :
    CallsD Try.prog 84 #[.pointer (some p), .pointer (some q), .pointer (some r)] .returning w fun e u' w' => e = .returned (.tuple #[]) ∧ u' = .returning ∧ Below w.heap.size w w' := by
  refine callsD_of_wpS Try.func84 rfl fun c₀ cs hu => ?_
  apply wpS_seq
  apply wpS_region
  simp [wpOpsS, go_sem, recoverD, hu, Try.ntmps84, Exit.thenS]
  refine wpS_of_wp ?_
  show Code.wp Try.prog _ _ ⟨#[.pointer (some p), .pointer (some q), .pointer (some r), .nilIface, undef, undef, .nilIface, undef, undef, undef, undef, undef, undef, undef, undef, undef, undef], []⟩ w
  have h1 := ta_nil
  have h2 := alloc112
  have h3 := neq_nil
  go_wp2_with fail
  have hB : Below w.heap.size w (w.alloc (.cells #[] 112)) := (Below.refl _ _).alloc (Nat.le_refl _) _
  cases c₀
  simp_all [bodyPostS, results, Try.results84]
set_option maxRecDepth 100000 in
theorem catch84_full (q base : Nat) (w : World) (v : Value) (a b c e : Int) (hq : base ≤ q) (h : ResC q w v a b c e) :
    CallsD Try.prog 84 #[.pointer (some ⟨q, 0, none⟩), .pointer (some ⟨q + 1, 0, none⟩), .pointer (some ⟨q + 1 + 1, 0, none⟩)] (.panicking fullP) w fun e u' w' => e = .returned (.tuple #[]) ∧ u' = .panicking [{ v := .iface 112 (.agg #[]), recovered := true }] ∧ ResC q w' (.slice none 0 0) 0 0 0 12 ∧ Below base w w' := by
  have hlt := h.lt
  have hB : Below w.heap.size w (w.alloc (.cells #[] 112)) := (Below.refl _ _).alloc (Nat.le_refl _) _
  obtain ⟨c0, c1, c2, c3, c4, f0, f1, f2, f3, f4⟩ := h.below hlt hB
  refine callsD_of_wpS Try.func84 rfl fun c₀ cs hu => ?_
  apply wpS_seq
  apply wpS_region
  simp [wpOpsS, go_sem, recoverD, hu, Try.ntmps84, Exit.thenS, fullP]
  refine wpS_of_wp ?_
  show Code.wp Try.prog _ _ ⟨#[.pointer (some ⟨q, 0, none⟩), .pointer (some ⟨q + 1, 0, none⟩), .pointer (some ⟨q + 1 + 1, 0, none⟩), .iface 112 (.agg #[]), undef, undef, .iface 112 (.agg #[]), undef, undef, undef, undef, undef, undef, undef, undef, undef, undef], []⟩ w
  have h1 := ta_full
  have h2 := alloc112
  have h3 := neq_nil
  have HR := Lib.hid ((h.below hlt hB).set (.slice none 0 0) 0 0 0 12)
  have HB := Lib.hid (setR_below (hB.mono (by omega)) hq (.slice none 0 0) 0 0 0 12)
  clear h hB
  go_wp2_with fail
  have hres := HR.out
  have hbel := HB.out
  unfold setR at hres hbel
  cases c₀
  simp_all [bodyPostS, results, Try.results84]
end Go.Proofs
namespace Go.Proofs
open Go.RowKit Go.Shelf Go.Proofs.Ct Go.Maps
/-- are the words and the limit refused? -/
def badArgs (g : Nat) (sub : List W) (limit : Int) : Bool := decide (100 < sub.length) || decide (4000 < sumTo sub sub.length) || (sub.any fun w => w.any (letBad g)) || decide (limit < 1) || decide (20000 < limit)
def enumE (g : Int) (rels sub : List W) (limit : Int) : Tb × (Int × Int) × Int :=
  if presE g rels ≠ 0 then ([], (0, 0), presE g rels) else
  if badArgs g.toNat sub limit = true then ([], (0, 0), 2) else
  match runS (2 * g.toNat) limit.toNat rels sub with
  | none => ([], (0, 0), 12)
  | some s => ((stdE g (tabS s) 0).1, ((s.t.length : Int), s.most), 0)
def EnumPost (g : Int) (rels sub : List W) (limit : Int) (w : World) (e : Ending) (w' : World) : Prop :=
  (∃ u, e = .returned (.tuple #[u, .agg #[.int .i64 (enumE g rels sub limit).2.1.1, .int .i64 (enumE g rels sub limit).2.1.2, .int .i64 0], .int .i64 (enumE g rels sub limit).2.2]) ∧ Tab w' u (enumE g rels sub limit).1) ∧ Below w.heap.size w w'
theorem enumE_pres {g : Int} {rels sub : List W} {limit : Int} (h : presE g rels ≠ 0) : enumE g rels sub limit = ([], (0, 0), presE g rels) := by unfold enumE; rw [if_pos h]
theorem enumE_bad {g : Nat} {rels sub : List W} {limit : Int} (h : presE g rels = 0) (h2 : badArgs g sub limit = true) : enumE g rels sub limit = ([], (0, 0), 2) := by unfold enumE; rw [if_neg (by rw [h]; simp), Int.toNat_natCast, if_pos h2]
theorem enumE_full {g lim : Nat} {rels sub : List W} (h : presE g rels = 0) (h2 : badArgs g sub lim = false) (h3 : runS (2 * g) lim rels sub = none) : enumE g rels sub lim = ([], (0, 0), 12) := by
  unfold enumE; rw [if_neg (by rw [h]; simp), Int.toNat_natCast, if_neg (by rw [h2]; simp), Int.toNat_natCast, h3]
theorem enumE_some {g lim : Nat} {rels sub : List W} {s : St} (h : presE g rels = 0) (h2 : badArgs g sub lim = false) (h3 : runS (2 * g) lim rels sub = some s) : enumE g rels sub lim = ((stdE g (tabS s) 0).1, ((s.t.length : Int), s.most), 0) := by
  unfold enumE; rw [if_neg (by rw [h]; simp), Int.toNat_natCast, if_neg (by rw [h2]; simp), Int.toNat_natCast, h3]
theorem EnumPost.err {g : Int} {rels sub : List W} {limit : Int} {w w' : World} {x : Int} (h : enumE g rels sub limit = ([], (0, 0), x)) (hb : Below w.heap.size w w') : EnumPost g rels sub limit w (.returned (.tuple #[.slice none 0 0, .agg #[.int .i64 0, .int .i64 0, .int .i64 0], .int .i64 x])) w' := by
  unfold EnumPost
  rw [h]
  exact ⟨⟨_, rfl, tab_nil⟩, hb⟩
theorem neg82_any (w : World) (B g : Nat) (u : Value) (ws : List Int) (hg : g ≤ 16) (hc : w.cell? ⟨B, 0, none⟩ = some (.int .i64 (g : Int))) (hu : IntsAt w u ws) :
    Calls Try.prog 82 #[u, .pointer (some ⟨B, 0, none⟩)] w fun e w' => e = .returned (.bool (ws.any (letBad g))) ∧ Below w.heap.size w w' := by
  have HC := Lib.hid (fine83_any w g u ws hg hu)
  obtain ⟨A, c, rfl, -, -, -⟩ := hu.open_
  clear hu
  generalize ws.any (letBad g) = b at *
  go_enter Try.func82, Try.ntmps82
  go_wp2_with (go_at_call 83; (refine HC.out.mono ?_); rintro e w' ⟨rfl, hb⟩; have HB := Lib.hid hb; clear hb)
  go_ret
  exact ⟨ret_bool (by simp), HB.out⟩
theorem eg82 : ∀ args w, (callFunc 82 args).run Try.prog w = .ok (.enter 82 args) w := enters_of Try.func82 (by kernel_rfl) rfl
/-- the results are read out of their cells -/
theorem res32 {q : Nat} {w : World} {v : Value} {a b c e : Int} (h : ResC q w v a b c e) (tmps : Array Value) (h6 : tmps[6]? = some (.pointer (some ⟨q, 0, none⟩))) (h7 : tmps[7]? = some (.pointer (some ⟨q + 1, 0, none⟩))) (h8 : tmps[8]? = some (.pointer (some ⟨q + 1 + 1, 0, none⟩))) :
    (results Try.f32 tmps).run Try.prog w = .ok (.tuple #[v, .agg #[.int .i64 a, .int .i64 b, .int .i64 c], .int .i64 e]) w := by
  obtain ⟨c0, c1, c2, c3, c4, -, -, -, -, -⟩ := h
  simp [results, Try.results32, go_sem, h6, h7, h8, asAddr, c0, c1, c2, c3, c4]
theorem leave32 {q : Nat} {w : World} {v : Value} {a b c e : Int} (h : ResC q w v a b c e) (tmps : Array Value) (h6 : tmps[6]? = some (.pointer (some ⟨q, 0, none⟩))) (h7 : tmps[7]? = some (.pointer (some ⟨q + 1, 0, none⟩))) (h8 : tmps[8]? = some (.pointer (some ⟨q + 1 + 1, 0, none⟩))) {R : Ending → World → Prop}
    (hR : R (.returned (.tuple #[v, .agg #[.int .i64 a, .int .i64 b, .int .i64 c], .int .i64 e])) w) : Leaves Try.prog Try.f32 tmps R [] .returning w := ⟨_, res32 h tmps h6 h7 h8, hR⟩
end Go.Proofs
namespace Go.Proofs
open Go.RowKit Go.Shelf Go.Proofs.Ct Go.Maps
/-- the state that Begin lays -/
def made124 (w : World) (lim : Nat) : World := w.alloc (.cells #[.slice none 0 0, .slice none 0 0, .slice none 0 0, .int .i64 (lim : Int), .int .i64 0, .int .i64 0, .bool false] 124)
theorem StR.made (w : World) (lim : Nat) : StR w.heap.size w.heap.size lim (made124 w lim) nilS :=
  ⟨Nat.le_refl _, [], .slice none 0 0, .slice none 0 0, .slice none 0 0, fun _ => 0, fun _ => 0, false, ⟨heap_alloc_new w _⟩, ⟨World.ownsRow_nil _ _ _ _, fun i hi => absurd hi (Nat.not_lt_zero _), fun i j hi => absurd hi (Nat.not_lt_zero _), World.ownsRow_nil _ _ _ _, World.ownsRow_nil _ _ _ _, fun i hi => absurd hi (Nat.not_lt_zero _), fun i hi => absurd hi (Nat.not_lt_zero _), (fun r hr => by cases hr), ⟨rfl, fun x hx => absurd hx (Nat.not_lt_zero _)⟩⟩⟩
end Go.Proofs
