/- The cosets of Felsch's strategy: scan; The reference of Felsch's strategy: rotations, words; As T2's law; the fact of an operation without a slot (a store) may name the value of a slot that it takes; Helpers of felsch.words: the closure of ContainsFunc, a pair of rows, a box that a row is stored into; The reference of Felsch's strategy: the words of a letter. -/
import Derived.Test.YtmpnengjboabcaaFtCS12
import Derived.Test.YtmpnengjboabcaaFtCS13
import Derived.Test.YtmpnengjboabcaaFtCS14
import Derived.Test.YtmpnengjboabcaaFtCS5
import Derived.Test.YtmpnengjboabcaaFtCS1
import Derived.Test.YtmpnengjboabcaaFtCS6
namespace Go.Proofs.Ct
theorem inv_drop (w : W) (i : Nat) : Ct.inv (w.drop i) = (Ct.inv w).take (w.length - i) := by
  unfold inv
  rw [List.reverse_drop, List.map_take]
theorem leadTo_take (t : Tb) (r : Int) (w : W) (n : Nat) : ∀ k, k ≤ n → leadTo t r (w.take n) k = leadTo t r w k
  | 0, _ => rfl
  | k + 1, h => by
    have e : (w.take n).getD k 0 = w.getD k 0 := by
      rw [List.getD_eq_getElem?_getD, List.getElem?_take, if_pos (by omega), ← List.getD_eq_getElem?_getD]
    rw [leadTo_succ, leadTo_succ, leadTo_take t r w n k (by omega), e]
theorem fwd_back (t : Tb) (r : Int) (w : W) {i : Nat} (hi : i ≤ w.length) : fwd t r (Ct.inv (w.drop i)) = bwd t r w i ∧ leadTo t r (Ct.inv (w.drop i)) (bwd t r w i) = leadTo t r (Ct.inv w) (bwd t r w i) ∧ i + bwd t r w i ≤ w.length := by
  obtain ⟨h1, h2, h3⟩ := bwd_spec t r w i
  have hb : i + bwd t r w i ≤ w.length := by
    rcases Nat.eq_zero_or_pos (bwd t r w i) with e | e
    · omega
    · have := (h3 (bwd t r w i - 1) (by omega)).1
      omega
  have hl : (Ct.inv (w.drop i)).length = w.length - i := by rw [length_inv, List.length_drop]
  refine ⟨fwd_eq (by omega) ?_ fun j hj => ?_, ?_, hb⟩
  · rcases h2 with h | h
    · exact .inl (by omega)
    · by_cases hn : bwd t r w i = w.length - i
      · exact .inl (by omega)
      · right
        rw [inv_drop, leadTo_take _ _ _ _ _ (by omega)]
        exact h
  · rw [inv_drop, leadTo_take _ _ _ _ _ (by omega)]
    exact (h3 j hj).2
  · rw [inv_drop, leadTo_take _ _ _ _ _ (by omega)]
theorem lead_inF {g : Nat} {s : St} (hI : Inv g s) {vs : W} (hl : LOk g vs) {r : Nat} (hr : r < s.t.length) : ∀ k, k ≤ vs.length → 0 ≤ leadTo s.t r vs k → (leadTo s.t r vs k).toNat < s.t.length
  | 0, _, _ => by
    show ((r : Int)).toNat < _
    rw [Int.toNat_natCast]; exact hr
  | k + 1, h2, h3 => by
    have ih := lead_inF hI hl hr k (by omega)
    rw [leadTo_succ] at h3 ⊢
    by_cases hneg : leadTo s.t r vs k < 0
    · rw [if_pos hneg] at h3; omega
    · rw [if_neg hneg] at h3 ⊢
      have hin := ih (by omega)
      have := (hI.bd _ hin _ (hl.col (k := k) (by omega))).2
      omega
theorem LOk.drop {g : Nat} {w : W} (h : LOk g w) (i : Nat) : LOk g (w.drop i) := fun x hx => h x (List.mem_of_mem_drop hx)
end Go.Proofs.Ct
namespace Go.Proofs
open Go.RowKit Go.Shelf Go.Proofs.Ct Go.Maps
theorem bl3F {a b c : World} (h1 : Below a.heap.size a b) (h2 : Below b.heap.size b c) : Below a.heap.size a c := h1.trans (h2.mono h1.size)
theorem lok_mildF {g : Nat} (hg : g ≤ 100000) {a : W} (h : LOk g a) : ∀ z ∈ a, Mild z := fun z hz => by
  have := h z hz
  unfold Mild
  omega
theorem under25e : Try.prog.underlying 25 = some (.slice (Try.prog.elem 25)) := by kernel_rfl
theorem r_slice_lo25 {o : Oper} {a : Act} {w : World} (x y : Operand) (A : Option Addr) (n c k : Nat) (ho : o.op = .slice 25 x (some y) none none) (hx : a.eval x = .slice A n c) (hy : a.eval y = .int .i64 (k : Int)) (hk : k ≤ n) : (execOp a.eval o).run Try.prog w = .ok (.value (sliced A k n c 1)) w := by
  have hu := under25e
  have hs : (sizeOf (Try.prog.elem 25)).run Try.prog w = .ok 1 w := by kernel_rfl
  unfold execOp
  simp only [ho, hx, hy, Option.map_none, Option.map_some, Sem.run_bind, run_sliceAt_slice w 25 _ _ _ _ hu, run_slice_l w 25 A n c hu .i64 (k : Int) (by omega) (by omega)]
  simp [hs]
set_option maxRecDepth 100000 in
set_option maxHeartbeats 4000000 in
theorem scan196_any (K : Nat → Prop) (T : TypeId) (ex : List Value) (bl cs : Nat → Nat) (g m base b lim r : Nat) (hm : m = 2 * g) (hg1 : 1 ≤ g) (hg : g ≤ 16) (w : World) (f : FS) (u : Value) (ws : W) (hT : TyF T) (hR : Ct.Rest g f.s) (hS : StFB K T ex bl cs base b m lim w f) (hbw : base ≤ w.heap.size) (hn : f.s.t.length ≤ 1000000) (hu : IntsAt w u ws) (hl : LOk g ws) (hwl : ws.length ≤ 1000000) (hr : r < f.s.t.length) (hk : f.k.length + f.s.t.length * m ≤ 1000000000000) :
    Calls Try.prog 196 #[.pointer (some ⟨b, 0, none⟩), .int .i64 (r : Int), u] w fun e w' => e = .returned (openV (scanF m f r ws).2) ∧ StFB K T ex bl cs base b m lim w' (scanF m f r ws).1 ∧ Keeps base K w w' := by
  obtain ⟨Au, cu, rfl, hu1, hu2, -⟩ := hu.open_
  obtain ⟨i, hi⟩ : ∃ i, fwd f.s.t r ws = i := ⟨_, rfl⟩
  obtain ⟨hfs1, -, hfs3⟩ := fwd_spec f.s.t r ws
  rw [hi] at hfs1
  obtain ⟨j, hj⟩ : ∃ j, bwd f.s.t r ws i = j := ⟨_, rfl⟩
  obtain ⟨hb1, hb2, hb3⟩ := fwd_back f.s.t r ws hfs1
  rw [hj] at hb1 hb2 hb3
  have hlen : ∀ (vs : W) (k : Nat), LOk g vs → k ≤ vs.length → 0 ≤ leadTo f.s.t r vs k → (leadTo f.s.t r vs k).toNat < f.s.t.length := fun vs k h1 h2 h3 => lead_inF hR.inv h1 hr k h2 h3
  obtain ⟨z, hz⟩ : ∃ z : Nat, leadTo f.s.t r ws i = (z : Int) := ⟨(leadTo f.s.t r ws i).toNat, by have := fwd_pos f.s.t r ws; rw [hi] at this; omega⟩
  obtain ⟨v, hv⟩ : ∃ v : Nat, leadTo f.s.t r (Ct.inv ws) j = (v : Int) := ⟨(leadTo f.s.t r (Ct.inv ws) j).toNat, by have := bwd_pos f.s.t r ws i; rw [hj] at this; omega⟩
  have hzl : z < f.s.t.length := by have := hlen ws i hl hfs1 (by rw [hz]; omega); rw [hz, Int.toNat_natCast] at this; exact this
  have hvl : v < f.s.t.length := by have := hlen (Ct.inv ws) j hl.inv (by rw [length_inv]; omega) (by rw [hv]; omega); rw [hv, Int.toNat_natCast] at this; exact this
  have HSC : Hid (scanF m f r ws = if i = ws.length then (if (z : Int) = (r : Int) then f else coinF m f z r, none) else if ws.length ≤ i + j then (coinF m f z v, none) else if ws.length = i + j + 1 then (joinF f z (col (ws.getD i 0)) v, none) else (f, some (z, col (ws.getD i 0)))) := Lib.hid (by
    unfold scanF
    rw [hi, hj, hz, hv, Int.toNat_natCast, Int.toNat_natCast])
  have HBW := Lib.hid hbw
  have HSW : Hid (∀ W, Below w.heap.size w W → StFB K T ex bl cs base b m lim W f ∧ base ≤ W.heap.size ∧ Keeps base K w W ∧ IntsAt W (.slice Au ws.length cu) ws) := Lib.hid fun W h => ⟨hS.below h, Nat.le_trans hbw h.size, Keeps.all h hbw hS.lt, hu.below h⟩
  have HW1 : Hid (Calls Try.prog 214 #[.pointer (some ⟨b, 0, none⟩), .int .i64 (r : Int), .slice Au ws.length cu] w fun e w' => e = .returned (.tuple #[.int .i64 (z : Int), .int .i64 (i : Int)]) ∧ ∃ q, w' = w.drewN q) := Lib.hid (by
    have h := walk214_any K T ex bl cs g base b m lim r hg w f _ ws hR.inv hS hn hu hl hr
    rw [hi, hz] at h
    exact h)
  have HW2 : Hid (∀ W v0, Below w.heap.size w W → IntsAt W v0 (Ct.inv (ws.drop i)) → Calls Try.prog 214 #[.pointer (some ⟨b, 0, none⟩), .int .i64 (r : Int), v0] W fun e w' => e = .returned (.tuple #[.int .i64 (v : Int), .int .i64 (j : Int)]) ∧ ∃ q, w' = W.drewN q) := Lib.hid fun W v0 h1 h2 => by
    have h := walk214_any K T ex bl cs g base b m lim r hg W f _ _ hR.inv (hS.below h1) hn h2 (hl.drop i).inv hr
    rw [hb1, hb2, hv] at h
    exact h
  have hms : ∀ x ∈ ws.drop i, Mild x := lok_mildF (by omega) (hl.drop i)
  have HIV : Hid (∀ W v0, IntsAt W v0 (ws.drop i) → Calls Try.prog 189 #[v0] W (InvPost (ws.drop i) W)) := Lib.hid fun W v0 h => inverse189_any W v0 _ h (by rw [List.length_drop]; omega) hms
  have HFI : Hid (Fits (Ct.inv (ws.drop i))) := Lib.hid fun x hx => by have := (hl.drop i).inv x hx; omega
  have HSL : Hid (∀ W, IntsAt W (.slice Au ws.length cu) ws → ∃ A', sliced Au i ws.length cu 1 = .slice A' (ws.length - i) (cu - i) ∧ IntsAt W (.slice A' (ws.length - i) (cu - i)) (ws.drop i)) := Lib.hid fun W h => by
    obtain ⟨A', h1, h2⟩ := ints_sliced h hfs1 (Nat.le_refl _)
    rw [List.take_length] at h2
    exact ⟨A', h1, h2⟩
  have HCN : Hid (∀ W p q, p < f.s.t.length → q < f.s.t.length → StFB K T ex bl cs base b m lim W f → base ≤ W.heap.size → Calls Try.prog 215 #[.pointer (some ⟨b, 0, none⟩), .int .i64 (p : Int), .int .i64 (q : Int)] W fun e w' => e = .returned (.tuple #[]) ∧ StFB K T ex bl cs base b m lim w' (coinF m f p q) ∧ Keeps base K W w') := Lib.hid fun W p q h1 h2 h3 h4 =>
    coincide215_any K T ex bl cs g m base b lim p q hm W f hT hR hg1 hg h3 h4 h1 h2 hn hk
  have HJO : Hid (∀ W p c q, p < f.s.t.length → q < f.s.t.length → c < 2 * g → StFB K T ex bl cs base b m lim W f → base ≤ W.heap.size → Calls Try.prog 216 #[.pointer (some ⟨b, 0, none⟩), .int .i64 (p : Int), .int .i64 (c : Int), .int .i64 (q : Int)] W fun e w' => e = .returned (.tuple #[]) ∧ StFB K T ex bl cs base b m lim w' (joinF f p c q) ∧ Keeps base K W w') := Lib.hid fun W p c q h1 h2 h3 h4 h5 =>
    set216_any K T ex bl cs g base b m lim p c q W f hT hR.inv hg h4 h5 h1 h2 h3 hn (by omega)
  have HLL := Lib.hid hl
  have hws0 : (0 : Int) ≤ (ws.length : Int) := Int.natCast_nonneg _
  have hws1 : (ws.length : Int) ≤ 1000000 := by omega
  have hi0 : (0 : Int) ≤ (i : Int) := Int.natCast_nonneg _
  have hi1 : (i : Int) ≤ (ws.length : Int) := by omega
  have hj0 : (0 : Int) ≤ (j : Int) := Int.natCast_nonneg _
  have hij : (i : Int) + (j : Int) ≤ (ws.length : Int) := by omega
  have hz0 : (0 : Int) ≤ (z : Int) := Int.natCast_nonneg _
  have hr0 : (0 : Int) ≤ (r : Int) := Int.natCast_nonneg _
  have hv0 : (0 : Int) ≤ (v : Int) := Int.natCast_nonneg _
  have hjv : i = ws.length → v = r := fun e => by
    have : j = 0 := by omega
    rw [this] at hv
    have : (r : Int) = (v : Int) := hv
    omega
  clear hS hu hR hl hT hbw hfs3 hb1 hb2 hlen hz hv hms hi hj
  obtain ⟨A', hsl, -⟩ := HSL.out w (HSW.out w (Below.refl _ _)).2.2.2
  have HSV := Lib.hid hsl
  have HSI : Hid (∀ W, Below w.heap.size w W → IntsAt W (.slice A' (ws.length - i) (cu - i)) (ws.drop i)) := Lib.hid fun W h => by
    obtain ⟨A2, h1, h2⟩ := HSL.out W (HSW.out W h).2.2.2
    rw [HSV.out] at h1
    obtain ⟨rfl, -, -⟩ := Value.slice.inj h1
    exact h2
  clear hsl
  go_enter Try.func196, Try.ntmps196
  go_wp2_with fail
  refine HW1.out.mono ?_
  rintro e w1 ⟨rfl, q1, rfl⟩
  have HB1 : Hid (Below w.heap.size w (w.drewN q1)) := Lib.hid (below_drewN (Below.refl _ _) q1)
  clear HW1
  generalize w.drewN q1 = w1 at *
  go_wp2_with ((with_reducible refine wpList_sel 25 ?_); refine wpList_val rfl (r_slice_lo25 (.tmp 23) (.tmp 24) _ _ _ i rfl rfl rfl (by omega)) ?_; rw [show sliced Au i ws.length cu 1 = _ from HSV.out])
  refine (HIV.out _ _ (HSI.out _ HB1.out)).mono ?_
  rintro e w2 ⟨A3, c3, rfl, ho, hb⟩
  have HB2 := Lib.hid (bl3F HB1.out hb)
  have hi2 := OwnI.ints ho HFI.out
  rw [List.length_drop] at hi2
  have HI2 := Lib.hid hi2
  clear ho hb hi2
  go_wp2_with fail
  refine (HW2.out _ _ HB2.out HI2.out).mono ?_
  rintro e w3 ⟨rfl, q2, rfl⟩
  have HB3 : Hid (Below w.heap.size w (w2.drewN q2)) := Lib.hid (bl3F HB2.out (below_drewN (Below.refl _ _) q2))
  clear HW2 HI2 HB2 HB1 HIV HFI HSI HSV HSL
  generalize w2.drewN q2 = w3 at *
  have HCC : Hid (∀ (p q : Nat), p < f.s.t.length → q < f.s.t.length → Calls Try.prog 215 #[.pointer (some ⟨b, 0, none⟩), .int .i64 (p : Int), .int .i64 (q : Int)] w3 fun e w' => e = .returned (.tuple #[]) ∧ StFB K T ex bl cs base b m lim w' (coinF m f p q) ∧ Keeps base K w w') := Lib.hid fun p q h1 h2 =>
    (HCN.out w3 p q h1 h2 (HSW.out _ HB3.out).1 (HSW.out _ HB3.out).2.1).mono fun e w' ⟨h1, h2, h3⟩ => ⟨h1, h2, (HSW.out _ HB3.out).2.2.1.trans h3⟩
  by_cases hil : i = ws.length
  · obtain rfl := hjv hil
    subst hil
    have hje : j = 0 := by omega
    subst hje
    by_cases hzr : z = v
    · have HE : Hid (scanF m f v ws = (f, none)) := Lib.hid (by rw [HSC.out, if_pos rfl, if_pos (by rw [hzr])])
      subst hzr
      clear HCC HSC HCN HJO
      go_wp2_with fail
      go_ret3
      exact ⟨by rw [HE.out]; rfl, by rw [HE.out]; exact (HSW.out _ HB3.out).1, (HSW.out _ HB3.out).2.2.1⟩
    · have HE : Hid (scanF m f v ws = (coinF m f z v, none)) := Lib.hid (by rw [HSC.out, if_pos rfl, if_neg (by omega)])
      have d1 : ((z : Int) == (v : Int)) = false := by rw [beq_eq_false_iff_ne]; omega
      have d2 : ((z : Int) != (v : Int)) = true := by simp; omega
      have HC := Lib.hid (HCC.out z v hzl hvl)
      clear HCC HSC HCN HJO hzr
      go_wp2_with fail
      refine HC.out.mono ?_
      rintro e w4 ⟨rfl, hs, hb⟩
      have HS4 := Lib.hid hs
      have HB4 := Lib.hid hb
      clear hs hb
      go_wp2_with fail
      go_ret3
      exact ⟨by rw [HE.out]; rfl, by rw [HE.out]; exact HS4.out, HB4.out⟩
  · have hilt : (i : Int) < (ws.length : Int) := by omega
    have d0 : ((i : Int) == (ws.length : Int)) = false := by rw [beq_eq_false_iff_ne]; omega
    clear hjv
    obtain ⟨-, -, -, bw, ow, rfl, hcc⟩ : True ∧ True ∧ True ∧ ∃ b off, Au = some ⟨b, off, none⟩ ∧ ∀ k, k < ws.length → w3.cell? ⟨b, off + k, none⟩ = some (.int .i64 (ws.getD k 0)) := by
      obtain ⟨A9, c9, e9, -, -, h9⟩ := (HSW.out _ HB3.out).2.2.2.open_
      obtain ⟨rfl, -, rfl⟩ := Value.slice.inj e9
      exact ⟨trivial, trivial, trivial, h9 (by omega)⟩
    have hci := hcc i (by omega)
    have hx := HLL.out.getD (k := i) (by omega)
    have hcx := HLL.out.col (k := i) (by omega)
    have hxr : -16 ≤ ws.getD i 0 ∧ ws.getD i 0 ≤ 16 := by omega
    have HCO : Hid (∀ W, Calls Try.prog 217 #[.int .i64 (ws.getD i 0)] W fun e w' => e = .returned (.int .i64 (col (ws.getD i 0) : Nat)) ∧ W = w') := Lib.hid fun W => column217_any W _ (by omega)
    have HJJ : Hid (Calls Try.prog 216 #[.pointer (some ⟨b, 0, none⟩), .int .i64 (z : Int), .int .i64 (col (ws.getD i 0) : Nat), .int .i64 (v : Int)] w3 fun e w' => e = .returned (.tuple #[]) ∧ StFB K T ex bl cs base b m lim w' (joinF f z (col (ws.getD i 0)) v) ∧ Keeps base K w w') := Lib.hid
      ((HJO.out w3 z _ v hzl hvl hcx (HSW.out _ HB3.out).1 (HSW.out _ HB3.out).2.1).mono fun e w' ⟨h1, h2, h3⟩ => ⟨h1, h2, (HSW.out _ HB3.out).2.2.1.trans h3⟩)
    have HSCX := Lib.hid HSC.out
    rw [if_neg hil] at HSCX
    clear hcc hx hil HSC HCN HJO
    by_cases hg0 : ws.length ≤ i + j
    · have HE : Hid (scanF m f r ws = (coinF m f z v, none)) := Lib.hid (by rw [HSCX.out, if_pos hg0])
      have hgz : (ws.length : Int) - (i : Int) - (j : Int) = 0 := by omega
      have HC := Lib.hid (HCC.out z v hzl hvl)
      clear HCC HSCX hg0 HJJ
      go_wp2_with fail
      refine HC.out.mono ?_
      rintro e w4 ⟨rfl, hs, hb⟩
      have HS4 := Lib.hid hs
      have HB4 := Lib.hid hb
      clear hs hb
      go_wp2_with fail
      go_ret3
      exact ⟨by rw [HE.out]; rfl, by rw [HE.out]; exact HS4.out, HB4.out⟩
    · have d3 : ((ws.length : Int) - (i : Int) - (j : Int) == 0) = false := by rw [beq_eq_false_iff_ne]; omega
      by_cases hg2 : ws.length = i + j + 1
      · have HE : Hid (scanF m f r ws = (joinF f z (col (ws.getD i 0)) v, none)) := Lib.hid (by rw [HSCX.out, if_neg hg0, if_pos hg2])
        have hgz : (ws.length : Int) - (i : Int) - (j : Int) = 1 := by omega
        clear HCC HSCX hg0
        generalize col (ws.getD i 0) = cx at *
        generalize ws.getD i 0 = x at *
        go_wp2_with (first
          | (go_at_call 217; (refine (HCO.out _).mono ?_); rintro e w4 ⟨rfl, rfl⟩)
          | (go_at_call 216; (refine HJJ.out.mono ?_); rintro e w5 ⟨rfl, hs, hb⟩
             have HS4 := Lib.hid hs
             have HB4 := Lib.hid hb
             clear hs hb))
        go_ret3
        exact ⟨by rw [HE.out]; rfl, by rw [HE.out]; exact HS4.out, HB4.out⟩
      · have HE : Hid (scanF m f r ws = (f, some (z, col (ws.getD i 0)))) := Lib.hid (by rw [HSCX.out, if_neg hg0, if_neg hg2])
        have hgz : 1 < (ws.length : Int) - (i : Int) - (j : Int) := by omega
        have d4 : ((ws.length : Int) - (i : Int) - (j : Int) == 1) = false := by rw [beq_eq_false_iff_ne]; omega
        clear HCC HSCX hg0 hg2 HJJ
        generalize col (ws.getD i 0) = cx at *
        generalize ws.getD i 0 = x at *
        go_wp2_with (go_at_call 217; (refine (HCO.out _).mono ?_); rintro e w4 ⟨rfl, rfl⟩)
        go_ret3
        exact ⟨by rw [HE.out]; rfl, by rw [HE.out]; exact (HSW.out _ HB3.out).1, (HSW.out _ HB3.out).2.2.1⟩
end Go.Proofs
namespace Go.Proofs
open Go.RowKit Go.Shelf Go.Proofs.Ct Go.Maps
def Grw (w w' : World) (v v' : Value) : Prop := w.heap.size ≤ w'.heap.size ∧ (∀ k, k < w.heap.size → v.ownBlock ≠ some k → w'.heap[k]? = w.heap[k]?) ∧ ∀ r, v'.ownBlock = some r → v.ownBlock = some r ∨ w.heap.size ≤ r
theorem Grw.of_below {w w' : World} (h : Below w.heap.size w w') (v : Value) : Grw w w' v v := ⟨h.size, fun k hk _ => h.block k hk, fun _ hr => .inl hr⟩
theorem Grw.trans {w w1 w2 : World} {v v1 v2 : Value} (h : Grw w w1 v v1) (h' : Grw w1 w2 v1 v2) : Grw w w2 v v2 := by
  refine ⟨Nat.le_trans h.1 h'.1, fun k hk hn => (h'.2.1 k (Nat.lt_of_lt_of_le hk h.1) fun e => ?_).trans (h.2.1 k hk hn), fun r hr => ?_⟩
  · rcases h.2.2 k e with h1 | h1
    · exact hn h1
    · omega
  · rcases h'.2.2 r hr with h1 | h1
    · exact h.2.2 r h1
    · exact .inr (Nat.le_trans h.1 h1)
theorem OutSt2.done2 {t e : TypeId} (he : e ≠ 3) (ht : Try.prog.underlying t = some (.slice e)) (hi : ∃ i, Try.prog.info? e = some i ∧ i.zero = some (.slice none 0 0) ∧ i.size = 1 ∧ i.bytes = 24) {F : Nat → Prop} {w0 wr : World} {vout : Value} {A : Option Addr} {n c : Nat} {rows : List (List Int)} {x : List Int} (h : OutSt2 e F w0 wr vout (.slice A n c) rows x) (hf : Fits x) (hl : rows.length ≤ 1000000) :
    ∃ A' c' w', (Builtin.append_ #[t, t] t #[vout, .slice (some ⟨wr.heap.size, 0, none⟩) 1 1]).run Try.prog (wr.alloc (.cells #[.slice A n c] e)) = .ok (.slice A' (rows.length + 1) c') w' ∧
      OutSt e (fun k => F k ∨ (Value.slice A n c).ownBlock = some k) w0 w' (.slice A' (rows.length + 1) c') (rows ++ [x]) ∧ Grw wr w' vout (.slice A' (rows.length + 1) c') := by
  have hub := h.st.out.block
  have hrb := owns_block h.row
  have hne : ∀ {k : Nat} {C : Array Value} {fr : Nat × Nat}, wr.heap[k]? = some (.cells C 3 fr) → vout.ownBlock ≠ some k := fun {k C fr} hc e' => by
    obtain ⟨-, C', hC'⟩ := hub k e'
    rw [hc] at hC'
    injection hC' with h5
    injection h5 with _ h6 _
    exact he h6.symm
  have hF2 : ∀ k, (F k ∨ (Value.slice A n c).ownBlock = some k) → k < wr.heap.size ∧ vout.ownBlock ≠ some k := fun k hk => by
    rcases hk with hk | hk
    · obtain ⟨h1, h2, C, hC⟩ := h.st.fs k hk
      exact ⟨h2, hne hC⟩
    · obtain ⟨h1, C, hC⟩ := hrb k hk
      exact ⟨(Array.getElem?_eq_some_iff.1 hC).1, hne hC⟩
  obtain ⟨A', c', w', hr, ho', hg, hw⟩ := push_row (ty := t) ht hi wr w0.heap.size (fun k => F k ∨ (Value.slice A n c).ownBlock = some k) vout rows (h.st.out.keep (fun _ _ => rfl) (Ag.refl _ _) (fun k hk => .inl hk)) A n c x ((IntsF.of_own h.row hf).mono fun k hk => .inr hk) hF2 (by omega) h.st.below.size
  refine ⟨A', c', w', hr, ⟨h.st.below.grown hg h.st.below.size (fun k hk => (hub k hk).1), ho', fun k hk => ?_⟩, hg.size, fun k hk hn => hg.block k hk (Ne.symm hn), fun r hr' => ?_⟩
  · have h2 := (hF2 k hk).1
    rcases hk with hk | hk
    · obtain ⟨h1, _, C, hC⟩ := h.st.fs k hk
      exact ⟨h1, Nat.lt_of_lt_of_le h2 hg.size, C, grown_cells hg hC (hne hC)⟩
    · obtain ⟨h1, C, hC⟩ := hrb k hk
      exact ⟨h1, Nat.lt_of_lt_of_le h2 hg.size, C, grown_cells hg hC (hne hC)⟩
  · rcases hw with hw | ⟨r', hr2, hge⟩
    · exact .inl (hw ▸ hr')
    · rw [hr2] at hr'
      exact .inr (Option.some.inj hr' ▸ hge)
theorem r_lo25 {o : Oper} {a : Act} {w : World} {v : Value} (x y : Operand) (A : Option Addr) (n c k : Nat) (ho : o.op = .slice 25 x (some y) none none) (hx : a.eval x = .slice A n c) (hy : a.eval y = .int .i64 (k : Int)) (hk : k ≤ n) (hv : sliced A k n c 1 = v) : (execOp a.eval o).run Try.prog w = .ok (.value v) w := by
  rw [← hv]; exact r_slice_lo25 x y A n c k ho hx hy hk
theorem r_hi25 {o : Oper} {a : Act} {w : World} {v : Value} (x y : Operand) (A : Option Addr) (n c h : Nat) (ho : o.op = .slice 25 x none (some y) none) (hx : a.eval x = .slice A n c) (hy : a.eval y = .int .i64 (h : Int)) (hc : h ≤ c) (hv : sliced A 0 h c 1 = v) : (execOp a.eval o).run Try.prog w = .ok (.value v) w := by
  rw [← hv]
  have hu := under25e
  have hs : (sizeOf (Try.prog.elem 25)).run Try.prog w = .ok 1 w := by kernel_rfl
  unfold execOp
  simp only [ho, hx, hy, Option.map_none, Option.map_some, Sem.run_bind, run_sliceAt_slice w 25 _ _ _ _ hu, run_slice_h w 25 A n c hu .i64 (h : Int) (by omega) (by omega)]
  simp [hs]
theorem rotTo_len (l : List W) (w : W) (x : Int) (k : Nat) : (rotTo l w x k).length ≤ l.length + k := by
  induction k with
  | zero => exact Nat.le_refl _
  | succ k ih =>
    rw [show rotTo l w x (k + 1) = (if w.getD k 0 = x ∧ w.drop k ++ w.take k ∉ rotTo l w x k then rotTo l w x k ++ [w.drop k ++ w.take k] else rotTo l w x k) from rfl]
    split
    · rw [List.length_append]; simp only [List.length_singleton]; omega
    · omega
end Go.Proofs
namespace Go.Proofs
open Go.RowKit Go.Shelf Go.Proofs.Ct Go.Maps
section
variable {F : Fence} {n : Nat} {P : Program} {ops : Array Oper} {Q : Exit → Act → World → Prop}
theorem wpIn_region_tie {id : Nat} {a0 : Act} {w : World} (hm : P.follows .mixedOrders = true) (N : Nat) (hN : ops.size = N) (dm : Nat → Option Tmp) (hlex : ∀ (i : Nat) (o : Oper), ops[i]? = some o → ∀ e ∈ o.after.toList, Region.binds .any e = true → e.on < i)
    (base : Nat) (wr : Nat → Bool) (us : Nat → Nat → Bool) (S : World → Prop) (Φ : Nat → Value → (Nat → Prop) → World → Prop)
    (tk : Nat → Nat) (htk : ∀ j, j < N → tk j = j ∨ (dm j = none ∧ tk j < N ∧ us j (tk j) = true)) (hus : usB ops N us = true) (huq : uqB N wr us = true)
    (hdm : ∀ i j t, i < N → j < N → dm i = some t → dm j = some t → i = j)
    (hst : ∀ (j : Nat) (v : Value) (O : Nat → Prop) (W W' : World), j < N → (∀ k, O k → k < W.heap.size) → (∀ k, O k → W'.heap[k]? = W.heap[k]?) → W.heap.size ≤ W'.heap.size → S W → S W' → Φ j v O W → Φ j v O W')
    (hsz : ∀ i t, i < N → dm i = some t → t < a0.tmps.size) (hbase : base ≤ w.heap.size) (h0 : S w.drew)
    (hop : ∀ (O : Nat → Nat → Prop) (ls : Nat → Bool) (i : Nat) (o : Oper) (a : Act) (w : World), i < N → ops[i]? = some o → S w → base ≤ w.heap.size → ls i = false → Part a0 dm N ls a →
      (∀ j, j < N → us i j = true → Φ j (slotv a (dm (tk j))) (O j) w ∧ ∀ k, O j k → base ≤ k ∧ k < w.heap.size) →
      (∀ j j' k, j < N → j' < N → us i j = true → us i j' = true → j ≠ j' → wr j = true → O j k → ¬ O j' k) →
      wpOpIn F n P ops Q i (fun a' w' => ∃ v O', a' = a.put (dm i) v ∧ S w' ∧ (dm i = none → v = undef) ∧ Step N wr us O i O' w w' ∧ Φ i (if dm i = none then slotv a (dm (tk i)) else v) O' w') a w)
    (hend : ∀ (O : Nat → Nat → Prop) (ls : Nat → Bool) (a : Act) (w : World), (∀ i, i < N → ls i = true) → S w → base ≤ w.heap.size → Part a0 dm N ls a → (∀ j, j < N → (wr j = false ∨ ∀ i, i < N → us i j = false) → Φ j (slotv a (dm (tk j))) (O j) w ∧ ∀ k, O j k → base ≤ k ∧ k < w.heap.size) → Q .normal a w) :
    (Code.region id ops true).wpIn F n P Q a0 w := by
  subst hN
  have hus' := us_of hus
  have huq' := uq_of huq
  refine wpIn_region_any hm ?_
  let lv : (Nat → Bool) → Nat → Prop := fun ls j => ls j = true ∧ ∀ i, i < ops.size → us i j = true → wr j = true → ls i = false
  refine wpAnyIn_inv (fun listed a w => Closed ops listed ∧ S w ∧ base ≤ w.heap.size ∧ Part a0 dm ops.size (fun j => listed.getD j false) a ∧ ∃ O : Nat → Nat → Prop,
    (∀ j k, j < ops.size → listed.getD j false = true → O j k → base ≤ k ∧ k < w.heap.size) ∧
    (∀ j j' k, j < ops.size → j' < ops.size → lv (fun j => listed.getD j false) j → lv (fun j => listed.getD j false) j' → j ≠ j' → wr j = true → O j k → ¬ O j' k) ∧
    (∀ j, j < ops.size → lv (fun j => listed.getD j false) j → Φ j (slotv a (dm (tk j))) (O j) w)) ?_ ?_ ops.size _ a0 _ (by simp) ?_ ⟨fun i o ho h => ?_, h0, hbase, ⟨rfl, rfl, fun _ _ => rfl⟩, fun _ _ => False, fun j k _ _ h => h.elim, fun j j' k _ _ _ _ _ _ h => h.elim, fun j hj h => ?_⟩
  · rintro listed a w i hls ⟨hcl, hS, hbw, hP, O, hOb, hOd, hsl⟩ hi
    obtain ⟨h1, h2, o, ho, hpre⟩ := ready_mem hi
    rw [getD_true_false (by omega)] at h2
    have hsetD : ∀ j, (listed.setIfInBounds i true).getD j false = if i = j then true else listed.getD j false := fun j => getD_set_listed (by omega)
    have hcl' : Closed ops (listed.setIfInBounds i true) := fun j oj hoj hl e he hb => by
      rw [hsetD] at hl ⊢
      by_cases eij : i = j
      · subst eij
        rw [ho] at hoj; cases hoj
        have := hpre e he hb
        split
        · rfl
        · exact this
      · rw [if_neg eij] at hl
        have := hcl j oj hoj hl e he hb
        split
        · rfl
        · exact this
    -- what i takes is live
    have hlive : ∀ j, j < ops.size → us i j = true → lv (fun j => listed.getD j false) j := fun j hj hu => by
      obtain ⟨e, he, rfl, hb⟩ := hus' i j h1 hj hu o ho
      refine ⟨hpre e he hb, fun i' hi' hu' hw => ?_⟩
      have := huq' i i' e.on h1 hi' hj hw hu hu'
      subst this
      exact h2
    have hwp := hop O _ i o a w h1 ho hS hbw h2 hP (fun j hj hu => ⟨hsl j hj (hlive j hj hu), fun k hk => hOb j k hj (hlive j hj hu).1 hk⟩) (fun j j' k hj hj' hu hu' hne hw => hOd j j' k hj hj' (hlive j hj hu) (hlive j' hj' hu') hne hw)
    refine wpOpIn_mono (fun a' w' h => ?_) hwp
    obtain ⟨v, O', rfl, hS', hvn, hstep, hv⟩ := h
    have hP' := hP.put h1 v
    rw [show (fun j => if i = j then true else listed.getD j false) = (fun j => (listed.setIfInBounds i true).getD j false) from (funext hsetD).symm] at hP'
    -- what is live behind the step was live, and i has not taken it
    have hback : ∀ j, j < ops.size → i ≠ j → lv (fun j => (listed.setIfInBounds i true).getD j false) j → lv (fun j => listed.getD j false) j ∧ (us i j = true → wr j = false) := fun j hj hne hl => by
      obtain ⟨l1, l2⟩ := hl
      have l1' : (listed.setIfInBounds i true).getD j false = true := l1
      rw [hsetD, if_neg hne] at l1'
      refine ⟨⟨l1', fun i' hi' hu hw => ?_⟩, fun hu => ?_⟩
      · have h3 : (listed.setIfInBounds i true).getD i' false = false := l2 i' hi' hu hw
        rw [hsetD] at h3
        split at h3
        · cases h3
        · exact h3
      · rcases hw : wr j with _ | _
        · rfl
        · have h3 : (listed.setIfInBounds i true).getD i false = false := l2 i h1 hu hw
          rw [hsetD, if_pos rfl] at h3
          cases h3
    refine ⟨hcl', hS', Nat.le_trans hbw hstep.size, hP', fun j => if i = j then O' else O j, fun j k hj hl hk => ?_, fun j j' k hj hj' hl hl' hne hw hk hk' => ?_, fun j hj hl => ?_⟩
    · replace hk : (if i = j then O' else O j) k := hk
      by_cases e : i = j
      · rw [if_pos e] at hk
        obtain ⟨h3, h4⟩ := hstep.foot k hk
        refine ⟨?_, h3⟩
        rcases h4 with h4 | ⟨j0, h5, h6, h7, -⟩
        · omega
        · exact (hOb j0 k h5 (hlive j0 h5 h6).1 h7).1
      · rw [if_neg e] at hk
        rw [hsetD, if_neg e] at hl
        have := hOb j k hj hl hk
        exact ⟨this.1, Nat.lt_of_lt_of_le this.2 hstep.size⟩
    · replace hk : (if i = j then O' else O j) k := hk
      replace hk' : (if i = j' then O' else O j') k := hk'
      by_cases e : i = j
      · subst e
        rw [if_pos rfl] at hk
        rw [if_neg hne] at hk'
        obtain ⟨b1, b2⟩ := hback j' hj' hne hl'
        obtain ⟨h3, h4⟩ := hstep.foot k hk
        rcases h4 with h4 | ⟨j0, h5, h6, h7, h8⟩
        · have := (hOb j' k hj' b1.1 hk').2
          omega
        · have hw0 := h8 hw
          by_cases e0 : j0 = j'
          · subst e0
            rw [b2 h6] at hw0; cases hw0
          · exact hOd j0 j' k h5 hj' (hlive j0 h5 h6) b1 e0 hw0 h7 hk'
      · rw [if_neg e] at hk
        obtain ⟨b1, b2⟩ := hback j hj e hl
        by_cases e' : i = j'
        · subst e'
          rw [if_pos rfl] at hk'
          obtain ⟨h3, h4⟩ := hstep.foot k hk'
          rcases h4 with h4 | ⟨j0, h5, h6, h7, -⟩
          · have := (hOb j k hj b1.1 hk).2
            omega
          · by_cases e0 : j = j0
            · subst e0
              rw [b2 h6] at hw; cases hw
            · exact hOd j j0 k hj h5 b1 (hlive j0 h5 h6) e0 hw hk h7
        · rw [if_neg e'] at hk'
          exact hOd j j' k hj hj' b1 (hback j' hj' e' hl').1 hne hw hk hk'
    · show Φ j (slotv (a.put (dm i) v) (dm (tk j))) (if i = j then O' else O j) w'
      by_cases e : i = j
      · subst e
        rw [if_pos rfl]
        have : slotv (a.put (dm i) v) (dm (tk i)) = if dm i = none then slotv a (dm (tk i)) else v := by
          cases hdi : dm i with
          | none => rw [if_pos rfl]; rfl
          | some t =>
            rw [if_neg (by simp)]
            rcases htk i h1 with e2 | ⟨e2, -, -⟩
            · rw [e2, hdi]; exact put_getD_same _ _ _ (by rw [hP.size]; exact hsz i t h1 hdi)
            · rw [hdi] at e2; cases e2
        rw [this]
        exact hv
      · rw [if_neg e]
        obtain ⟨b1, b2⟩ := hback j hj e hl
        have htj : tk j < ops.size ∧ i ≠ tk j := by
          rcases htk j hj with e2 | ⟨-, e2, e3⟩
          · rw [e2]; exact ⟨hj, e⟩
          · refine ⟨e2, fun e4 => ?_⟩
            obtain ⟨ee, he1, he2, he3⟩ := hus' j (tk j) hj e2 e3 ops[j] (Array.getElem?_eq_getElem hj)
            have h3 := hcl j ops[j] (Array.getElem?_eq_getElem hj) b1.1 ee he1 he3
            rw [he2, ← e4, h2] at h3
            cases h3
        have hv' : slotv (a.put (dm i) v) (dm (tk j)) = slotv a (dm (tk j)) := by
          cases hdj : dm (tk j) with
          | none => rfl
          | some t =>
            cases hdi : dm i with
            | none => rfl
            | some t' => exact put_getD_ne _ _ _ _ (fun e' => htj.2 (hdm i (tk j) t h1 htj.1 (by rw [hdi, e']) hdj))
        rw [hv']
        refine hst j _ _ w w' hj (fun k hk => (hOb j k hj b1.1 hk).2) (fun k hk => hstep.keep k (hOb j k hj b1.1 hk).2 fun j0 h5 h6 h7 h8 => ?_) hstep.size hS hS' (hsl j hj b1)
        by_cases e0 : j0 = j
        · subst e0
          rw [b2 h6] at h7; cases h7
        · exact hOd j0 j k h5 hj (hlive j0 h5 h6) b1 e0 h7 h8 hk
  · rintro listed a w hls ⟨hcl, hS, hbw, hP, O, hOb, hOd, hsl⟩ hr
    have hready : ∀ i, i < ops.size → listed.getD i false = true := by
      intro i
      induction i using Nat.strongRecOn with
      | _ i ih =>
        intro hi
        rcases hl : listed.getD i false with _ | _
        · have hmem : i ∈ Region.ready .any ops listed := by
            simp only [Region.ready, List.mem_filter, List.mem_range, Bool.and_eq_true, Bool.not_eq_true']
            refine ⟨hi, by rw [getD_true_false (by omega)]; exact hl, ?_⟩
            rw [Array.getElem?_eq_getElem hi]
            simp only [Option.map_some, Option.getD_some]
            rw [Array.all_eq_true_iff_forall_mem]
            intro e he
            by_cases hb : Region.binds .any e = true
            · have hlt := hlex i _ (Array.getElem?_eq_getElem hi) e (by simpa using he) hb
              simp [ih e.on hlt (by omega)]
            · simp [hb]
          rw [hr] at hmem; cases hmem
        · rfl
    refine hend O _ a w hready hS hbw hP (fun j hj hd => ⟨hsl j hj ⟨hready j hj, fun i hi hu hw => ?_⟩, fun k hk => hOb j k hj (hready j hj) hk⟩)
    rcases hd with hd | hd
    · rw [hd] at hw; cases hw
    · rw [hd i hi] at hu; cases hu
  · simp
  · have : (Array.replicate ops.size false).getD i false = false := by
      simp only [Array.getD_eq_getD_getElem?, Array.getElem?_replicate]; split <;> rfl
    rw [this] at h; cases h
  · have h1 := h.1
    have : (Array.replicate ops.size false).getD j false = false := by
      simp only [Array.getD_eq_getD_getElem?, Array.getElem?_replicate]; split <;> rfl
    have h2 : (Array.replicate ops.size false).getD j false = true := h1
    rw [this] at h2; cases h2
end
end Go.Proofs
namespace Go.Proofs
open Go.RowKit Go.Shelf Go.Proofs.Ct Go.Maps
set_option maxRecDepth 100000 in
theorem eq190_any (w : World) (u v : Value) (q : Nat) (x R : List Int) (hu : IntsAt w u x) (hv : IntsAt w v R) (hq : w.cell? ⟨q, 0, none⟩ = some v) :
    Calls Try.prog 190 #[u, .pointer (some ⟨q, 0, none⟩)] w fun e w' => e = .returned (.bool (decide (x = R))) ∧ Below w.heap.size w w' := by
  have HC := Lib.hid (equal143_any w u v x R hu hv)
  obtain ⟨Au, cu, rfl, -, -, -⟩ := hu.open_
  obtain ⟨Av, cv, rfl, -, -, -⟩ := hv.open_
  clear hu hv
  generalize decide (x = R) = r at *
  go_enter Try.func190, Try.ntmps190
  go_wp2_with (go_at_call 191; (with_reducible refine HC.out.mono ?_); rintro e w1 ⟨rfl, p, rfl⟩)
  go_ret
  exact ⟨rfl, below_drewN (Below.refl _ _) _⟩
theorem call124 (args : Array Value) (w : World) : (callFunc 124 args).run Try.prog w = .ok (.enter 124 args) w := enters_of Try.func124 (by kernel_rfl) rfl args w
theorem call190 (args : Array Value) (w : World) : (callFunc 190 args).run Try.prog w = .ok (.enter 190 args) w := enters_of Try.func190 (by kernel_rfl) rfl args w
theorem bs31_2 (A B : Option Addr) (n m c k : Nat) (w : World) : (Instr.buildSlice 31 2 #[(0, .slice A n c), (1, .slice B m k)]).run Try.prog w = .ok (.slice (some ⟨w.heap.size, 0, none⟩) 2 2) (w.alloc (.cells #[.slice A n c, .slice B m k] 25)) := by kernel_rfl
theorem alloc25 (w : World) : (Instr.alloc 25 true (.tuple #[])).run Try.prog w = .ok (.pointer (some ⟨w.heap.size, 0, none⟩)) (w.alloc (.cells #[.slice none 0 0] 25)) := by kernel_rfl
section
variable {o : Oper} {a : Act} {w : World}
theorem r_bs31_2 (x y : Operand) (A B : Option Addr) (n m c k : Nat) (ho : o.op = .buildSlice 31 2 #[(0, x), (1, y)]) (hx : a.eval x = .slice A n c) (hy : a.eval y = .slice B m k) : (execOp a.eval o).run Try.prog w = .ok (.value (.slice (some ⟨w.heap.size, 0, none⟩) 2 2)) (w.alloc (.cells #[.slice A n c, .slice B m k] 25)) := by
  have hb := bs31_2 A B n m c k w
  unfold execOp
  simp only [ho, List.map_toArray, List.map_cons, List.map_nil, hx, hy, Sem.run_bind, hb, Result.andThen_ok]
  rfl
theorem r_alloc25 (ho : o.op = .alloc 25) : (execOp a.eval o).run Try.prog w = .ok (.value (.pointer (some ⟨w.heap.size, 0, none⟩))) (w.alloc (.cells #[.slice none 0 0] 25)) := by
  have hb := alloc25 w
  unfold execOp
  simp only [ho, Sem.run_bind, hb, Result.andThen_ok]
  rfl
theorem st25 (ad : Addr) (u : Value) (A : Option Addr) (m c : Nat) (hc : w.cell? ad = some u) (hf : w.frozen? ad = false) : (Instr.storeAt 25 (.pointer (some ad)) (.slice A m c)).run Try.prog w = .ok () (w.setCell ad (.slice A m c)) := by
  simp [Instr.storeAt, Instr.sureAddr, go_sem, hc, hf]
theorem r_store25 (x y : Operand) (q : Nat) (u : Value) (A : Option Addr) (m c : Nat) (ho : o.op = .store 25 x y) (hx : a.eval x = .pointer (some ⟨q, 0, none⟩)) (hy : a.eval y = .slice A m c) (hg : w.heap[q]? = some (.cells #[u] 25 (0, 0))) : (execOp a.eval o).run Try.prog w = .ok .skip (w.setCell ⟨q, 0, none⟩ (.slice A m c)) := by
  have hc : w.cell? ⟨q, 0, none⟩ = some u := by rw [cell_of_row _ _ _ _ _ _ hg]; rfl
  have hf : w.frozen? ⟨q, 0, none⟩ = false := by simp [World.frozen?, hg]
  exact r_store1 25 x y ⟨q, 0, none⟩ u _ ho hx hy rfl hc hf (st25 _ u A m c hc hf)
end
theorem tab_two25 {w : World} {X Y : List Int} {A B : Option Addr} {c d : Nat} {F : Nat → Prop} (hx : IntsF F w (.slice A X.length c) X) (hy : IntsF F w (.slice B Y.length d) Y) (hF : ∀ k, F k → k < w.heap.size) :
    TabS (fun k => F k ∨ k = w.heap.size) (w.alloc (.cells #[.slice A X.length c, .slice B Y.length d] 25)) (.slice (some ⟨w.heap.size, 0, none⟩) 2 2) [X, Y] := by
  have hal : Below w.heap.size w (w.alloc (.cells #[.slice A X.length c, .slice B Y.length d] 25)) := (Below.refl _ _).alloc (Nat.le_refl _) _
  refine ⟨[.slice A X.length c, .slice B Y.length d], fun w' ha => ?_, rfl, fun k hk => ?_⟩
  · have h1 := (ha w.heap.size (.inr rfl)).trans (heap_alloc_new w _)
    refine ⟨_, 2, 2, rfl, rfl, Nat.le_refl _, by simp [maxLen], fun _ => ⟨w.heap.size, 0, rfl, fun m u hu => ?_⟩⟩
    rw [cell_of_row _ _ _ _ _ _ h1, Nat.zero_add]
    simpa using hu
  · have : k = 0 ∨ k = 1 := by simp at hk; omega
    rcases this with rfl | rfl
    · exact ⟨_, rfl, (hx.keep fun q hq => hal.block q (hF q hq)).mono fun q hq => .inl hq⟩
    · exact ⟨_, rfl, (hy.keep fun q hq => hal.block q (hF q hq)).mono fun q hq => .inl hq⟩
def BoxS (base : Nat) (R : List Int) (v : Value) (O : Nat → Prop) (W : World) : Prop := ∃ q A c, v = .pointer (some ⟨q, 0, none⟩) ∧ W.heap[q]? = some (.cells #[.slice A R.length c] 25 (0, 0)) ∧ O q ∧ OwnI base W (.slice A R.length c) R ∧ ∀ r, (Value.slice A R.length c).ownBlock = some r → O r
theorem BoxS.keep {base : Nat} {R : List Int} {v : Value} {O : Nat → Prop} {W W' : World} (h : ∀ k, O k → W'.heap[k]? = W.heap[k]?) (hb : BoxS base R v O W) : BoxS base R v O W' := by
  obtain ⟨q, A, c, h1, h2, h3, h4, h5⟩ := hb
  exact ⟨q, A, c, h1, (h q h3).trans h2, h3, owns_keep h4 fun r hr => h r (h5 r hr), h5⟩
theorem keep_tie {t j : Nat} {p : FP} {base : Nat} {R : List Int} {v : Value} {O : Nat → Prop} {W0 w w' : World} (hb : W0.heap.size = base) (h1 : Below base W0 w) (h2 : Below base W0 w') (hs : w.heap.size ≤ w'.heap.size) (h : ∀ k, O k → w'.heap[k]? = w.heap[k]?) :
    (if j = t then BoxS base R v O w else p.holds base v O w) → if j = t then BoxS base R v O w' else p.holds base v O w' := by
  intro hh
  split at hh
  · next e => rw [if_pos e]; exact hh.keep h
  · next e => rw [if_neg e]; exact FP.keep hb h1 h2 hs h hh
theorem flat_two (a b : List Int) : flatTo [a, b] 2 = a ++ b := by simp [flatTo, foldTo]
def midTo (L : List W) (ws : W) (x : Int) (j : Nat) : List W := foldTo (fun j l => rotL l ([ws, Ct.inv ws].getD j []) x) j L
end Go.Proofs
namespace Go.Proofs
open Go.RowKit Go.Shelf Go.Proofs.Ct Go.Maps
theorem wordsTo2_len {rels : List W} (h : ∀ j, (rels.getD j []).length ≤ 100) (x : Int) (k : Nat) : (wordsTo2 rels x k).length ≤ k * 200 := by
  induction k with
  | zero => exact Nat.le_refl _
  | succ k ih =>
    rw [show wordsTo2 rels x (k + 1) = rotL (rotL (wordsTo2 rels x k) (rels.getD k []) x) (Ct.inv (rels.getD k [])) x from rfl]
    have h1 := rotTo_len (rotL (wordsTo2 rels x k) (rels.getD k []) x) (Ct.inv (rels.getD k [])) x (Ct.inv (rels.getD k [])).length
    have h2 := rotTo_len (wordsTo2 rels x k) (rels.getD k []) x (rels.getD k []).length
    have h3 := h k
    rw [length_inv] at h1
    unfold rotL
    rw [length_inv]
    unfold rotL at h1
    omega
end Go.Proofs
