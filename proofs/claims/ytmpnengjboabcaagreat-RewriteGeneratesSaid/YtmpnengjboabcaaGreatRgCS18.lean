/- The reference's Add: what it meets; The reference's Add; The reference's Define; (*coset.state).add where there is no room; define; (*coset.state).scan. -/
import Derived.Test.YtmpnengjboabcaaGreatRgCS16
import Derived.Test.YtmpnengjboabcaaGreatRgCS17
namespace Go.Proofs
open Go.RowKit Go.Shelf Go.Proofs.Ct Go.Maps
theorem Still.boxR {N z i b : Nat} {w : World} {C0 : Array Value} (hb : w.heap[b]? = some (.cells C0 102 (0, 0))) (hN : b < N) (k : Nat) (v : Value) : Still N z i w (w.setCell ⟨b, k, none⟩ v) :=
  ⟨fun j hj _ => Below.heap_setCell w ⟨b, k, none⟩ v j (fun e => by have e' : j = b := e; omega), fun _ j C e hC he => Below.heap_setCell w ⟨b, k, none⟩ v j fun e' => by
    have e'' : j = b := e'
    rw [e'', hb] at hC
    cases hC
    rcases he with he | he <;> cases he⟩
section
variable {base : Nat} {w w' : World} {t : Tb} {q : List Nat} {P : List Int} {vr vp vq : Value} {bl cs : Nat → Nat}
theorem CoreN.pushRowR (h : CoreN base w t q P vr vp vq bl cs) (hbw : base ≤ w.heap.size) {g h0 m cap : Nat} {x : List Int} (hg : base ≤ g) (hx : XsAt w g x) (hm : x.length = m) (_hm1 : m ≤ 1000) (hcap : m ≤ cap) (hcap2 : cap ≤ 9223372036854775807) (hn : ∀ i, i < t.length → bl i ≠ g) (hp : vp.ownBlock ≠ some g) (hq : vq.ownBlock ≠ some g) (hc : w.cell? ⟨h0, 0, none⟩ = some (.slice (some ⟨g, 0, none⟩) m cap)) (hl : t.length ≤ 1000000) :
    ∃ A c w', (Builtin.append_ #[29, 29] 29 #[vr, .slice (some ⟨h0, 0, none⟩) 1 1]).run Tryz.prog w = .ok (.slice A (t.length + 1) c) w' ∧ CoreN base w' (t ++ [x]) q P (.slice A (t.length + 1) c) vp vq (fun i => if i = t.length then g else bl i) (fun i => if i = t.length then cap else cs i) ∧ w.grownBy w' vr.ownBlock := by
  obtain ⟨A, c, w', hr, ho, hgr, -⟩ := run_push_at (t := 29) (ty := 29) Tryz.underlying29 info24p rfl (by omega) w base vr t.length _ h.out (.slice (some ⟨g, 0, none⟩) m cap) rfl (by omega) hbw h0 hc
  have hne : ∀ (k : Nat) (C : Array Value), w.heap[k]? = some (.cells C 3 (0, 0)) → w'.heap[k]? = w.heap[k]? := fun k C hC => hgr.block k (Array.getElem?_eq_some_iff.1 hC).1 fun e => by
    obtain ⟨-, C', hC'⟩ := owns_block h.out k e.symm
    rw [hC] at hC'
    cases hC'
  have hlen : (t ++ [x]).length = t.length + 1 := by simp
  refine ⟨A, c, w', hr, ⟨?_, fun i hi => ?_, fun i j hi hj e => ?_, owns_keep h.par fun k hk => ?_, owns_keep h.que fun k hk => ?_, fun i hi => ?_, fun i hi => ?_, h.pq⟩, hgr⟩
  · rw [hlen]
    have e : ((List.range (t.length + 1)).map fun i => (.slice (some ⟨(if i = t.length then g else bl i), 0, none⟩) (Tb.row (t ++ [x]) i).length (if i = t.length then cap else cs i) : Value)) = (List.range t.length).map (fun i => (.slice (some ⟨bl i, 0, none⟩) (t.row i).length (cs i) : Value)) ++ [.slice (some ⟨g, 0, none⟩) m cap] := by
      rw [List.range_succ, List.map_append]
      refine congr (congrArg (fun a b : List Value => a ++ b) ?_) ?_
      · refine List.map_congr_left fun i hi => ?_
        have hi' : i < t.length := List.mem_range.1 hi
        rw [if_neg (by omega), if_neg (by omega), row_append, if_pos hi']
      · rw [List.map_cons, List.map_nil, if_pos rfl, if_pos rfl, row_append, if_neg (Nat.lt_irrefl _), if_pos rfl, hm]
    rw [e]
    exact ho
  · rw [hlen] at hi
    by_cases e : i = t.length
    · subst e
      obtain ⟨C, hC, -⟩ := id hx
      simp only [if_true, row_append, Nat.lt_irrefl, if_false]
      exact ⟨hg, hx.keep (hne _ C hC), by omega, by omega⟩
    · have hi' : i < t.length := by omega
      obtain ⟨a, b, d⟩ := h.row i hi'
      obtain ⟨C, hC, -⟩ := id b
      simp only [if_neg e, row_append, if_pos hi']
      exact ⟨a, b.keep (hne _ C hC), d⟩
  · rw [hlen] at hi hj
    by_cases e1 : i = t.length
    · by_cases e2 : j = t.length
      · omega
      · simp only [if_pos e1, if_neg e2] at e
        exact absurd e.symm (hn j (by omega))
    · by_cases e2 : j = t.length
      · simp only [if_neg e1, if_pos e2] at e
        exact absurd e (hn i (by omega))
      · simp only [if_neg e1, if_neg e2] at e
        exact h.inj i j (by omega) (by omega) e
  · obtain ⟨-, C, hC⟩ := owns_block h.par k hk
    exact hne k C hC
  · obtain ⟨-, C, hC⟩ := owns_block h.que k hk
    exact hne k C hC
  · rw [hlen] at hi
    by_cases e : i = t.length
    · simp only [if_pos e]; exact hp
    · simp only [if_neg e]; exact h.sepP i (by omega)
  · rw [hlen] at hi
    by_cases e : i = t.length
    · simp only [if_pos e]; exact hq
    · simp only [if_neg e]; exact h.sepQ i (by omega)
end
def ParG (base N : Nat) (t : Tb) (q : List Nat) (P : List Int) (b : Nat) (vr vp vq : Value) (bl cs : Nat → Nat) : Nat → Value → World → Prop
  | 10, v, w => ∃ h, v = .slice (some ⟨h, 0, none⟩) 1 1 ∧ N ≤ h ∧ w.heap[h]? = some (.cells #[.int .i64 (P.length : Int)] 3 (0, 0))
  | 11, v, w => ∃ A c, v = .slice A (P.length + 1) c ∧ CoreN base w t q (P ++ [(P.length : Int)]) vr v vq bl cs
  | i, v, _ => v = ([.pointer (some ⟨b, 0, none⟩), .pointer (some ⟨b, 0, none⟩), .pointer (some ⟨b, 0, none⟩), .pointer (some ⟨b, 1, none⟩), vp, .pointer (some ⟨b, 0, none⟩), .pointer (some ⟨b, 0, none⟩), .pointer (some ⟨b, 0, none⟩), vr, .int .i64 (P.length : Int), undef, undef, .pointer (some ⟨b, 0, none⟩), .pointer (some ⟨b, 1, none⟩), undef] : List Value).getD i undef
theorem ParG.keep {base N b : Nat} {t : Tb} {q : List Nat} {P : List Int} {vr vp vq : Value} {bl cs : Nat → Nat} : ∀ (i j : Nat) (v : Value) (w w' : World), i < 15 → j < 15 → i ≠ j → Still N 11 i w w' → ParG base N t q P b vr vp vq bl cs j v w → ParG base N t q P b vr vp vq bl cs j v w' := by
  intro i j v w w' hi hj hne hS h
  have hk : ∀ (g : Nat) (o : Obj), N ≤ g → w.heap[g]? = some o → w'.heap[g]? = some o := fun g o hg ho => (hS.1 g hg (Array.getElem?_eq_some_iff.1 ho).1).trans ho
  have hcases : j = 10 ∨ j = 11 ∨ (j ≠ 10 ∧ j ≠ 11) := by omega
  rcases hcases with rfl | rfl | ⟨h1, h2⟩
  · obtain ⟨g, e, hg, hc⟩ := h
    exact ⟨g, e, hg, hk g _ hg hc⟩
  · obtain ⟨A, c, e, hC⟩ := h
    exact ⟨A, c, e, hC.keep fun k C e0 _ hC' he => hS.2 hne k C e0 hC' he⟩
  · unfold ParG at h ⊢
    split at h <;> first | contradiction | exact h
structure ParT (base N b lim gx : Nat) (x : List Int) (w : World) (s : St) (t : Tb) (P : List Int) (vr vp vq : Value) (bl cs : Nat → Nat) (f : Bool) (p q : Bool) (W : World) : Prop where
  box : q = false → BoxR b lim W s vr vp vq f ∧ (p = false → CoreN base W t s.q P vr vp vq bl cs)
  bel : Kf base w W
  siz : N ≤ W.heap.size
  row : XsAt W gx x
  done : q = true → ∃ A c, BoxR b lim W s vr (.slice A (P.length + 1) c) vq f ∧ CoreN base W t s.q (P ++ [(P.length : Int)]) vr (.slice A (P.length + 1) c) vq bl cs
section
variable {base N b lim gx : Nat} {x : List Int} {w W W' : World} {s : St} {t : Tb} {P : List Int} {vr vp vq : Value} {bl cs : Nat → Nat} {f : Bool} {p q : Bool}
theorem ParT.below (h : ParT base N b lim gx x w s t P vr vp vq bl cs f p q W) (hq : q = false) (hbw : base ≤ w.heap.size) (hb : Below W.heap.size W W') : ParT base N b lim gx x w s t P vr vp vq bl cs f p q W' :=
  ⟨fun _ => ⟨(h.box hq).1.below hb, fun hp => ((h.box hq).2 hp).below hb⟩, h.bel.trans (Kf.of hb (Nat.le_trans hbw h.bel.1.size)), Nat.le_trans h.siz hb.size, h.row.below hb, fun e => by rw [hq] at e; cases e⟩
theorem ParT.app (h : ParT base N b lim gx x w s t P vr vp vq bl cs f p q W) (hp : p = false) (hq : q = false) (hbw : base ≤ w.heap.size) (hgr : W.grownBy W' vp.ownBlock) (hvr : ∀ r, vp.ownBlock = some r → base ≤ r ∧ r ≠ b ∧ r ≠ gx) : ParT base N b lim gx x w s t P vr vp vq bl cs f true q W' :=
  ⟨fun _ => ⟨(h.box hq).1.grown hgr (fun e => (hvr b e).2.1 rfl), fun e => (by cases e)⟩, h.bel.grown hgr (Nat.le_trans hbw h.bel.1.size) (owns_kf ((h.box hq).2 hp).par (by decide)), Nat.le_trans h.siz hgr.size, h.row.grown hgr (fun e => (hvr gx e).2.2 rfl), fun e => by rw [hq] at e; cases e⟩
theorem xs_box {w : World} {b g k : Nat} {C0 : Array Value} {x : List Int} (h : XsAt w g x) (hb : w.heap[b]? = some (.cells C0 102 (0, 0))) (v : Value) : XsAt (w.setCell ⟨b, k, none⟩ v) g x :=
  h.keep (Below.heap_setCell w ⟨b, k, none⟩ v g (fun e => by
    obtain ⟨C, hC, -⟩ := h
    have e' : g = b := e
    rw [e', hb] at hC
    cases hC))
theorem ParT.fin {A : Option Addr} {c : Nat} (h : ParT base N b lim gx x w s t P vr vp vq bl cs f p q W) (hq : q = false) (hb : base ≤ b) (hC : CoreN base W t s.q (P ++ [(P.length : Int)]) vr (.slice A (P.length + 1) c) vq bl cs) : ParT base N b lim gx x w s t P vr vp vq bl cs f p true (W.setCell ⟨b, 1, none⟩ (.slice A (P.length + 1) c)) :=
  ⟨fun e => (by cases e), h.bel.setCell hb ⟨_, 102, (h.box hq).1.box, by decide⟩ _, by rw [World.size_setCell]; exact h.siz, xs_box h.row (h.box hq).1.box _, fun _ => ⟨A, c, (h.box hq).1.upd1 _ rfl rfl, hC.other (h.box hq).1.box (by decide) (by decide) 1 _⟩⟩
theorem par_ne {base g m : Nat} {w : World} {vp : Value} {P : List Int} (h : OwnI base w vp P) (hp : 0 < P.length) (h0 : 0 ≤ P.getD 0 0) (hx : XsAt w g (List.replicate m (-1))) (hm : 1 ≤ m) : vp.ownBlock ≠ some g := fun e => by
  obtain ⟨g', c', rfl, -, -, hc, -⟩ := ownI_cell h hp
  obtain rfl : g' = g := Option.some.inj e
  have h1 := hc 0 hp
  have h2 := hx.cell (k := 0) (by simp; omega)
  rw [h2] at h1
  have h3 : (List.replicate m (-1 : Int)).getD 0 0 = -1 := by
    rw [List.getD_eq_getElem?_getD, List.getElem?_replicate, if_pos (by omega)]
    rfl
  rw [h3] at h1
  injection h1 with h1
  injection h1 with _ h1
  omega
end
end Go.Proofs
namespace Go.Proofs
open Go.RowKit Go.Shelf Go.Proofs.Ct Go.Maps
theorem xs_own {base : Nat} {w : World} {g n c : Nat} {xs : List Int} (h : OwnI base w (.slice (some ⟨g, 0, none⟩) n c) xs) (h0 : 0 < xs.length) : XsAt w g xs ∧ base ≤ g ∧ xs.length ≤ c ∧ c ≤ 9223372036854775807 := by
  obtain ⟨hl, h⟩ := h
  rcases h with ⟨-, h1⟩ | ⟨g', cap, cur, e, hb, hc, h1, hm, hs, ht⟩
  · omega
  · injection e with e1 e2 e3
    injection e1 with e1
    injection e1 with e1
    subst e1 e3
    refine ⟨⟨cur, hc, by omega, fun k hk => ?_⟩, hb, h1, by simpa [maxLen] using hm⟩
    have h2 : (cur.toList.take (xs.length * 1))[k]? = (ints xs)[k]? := by rw [ht]
    rw [List.getElem?_take, if_pos (by omega)] at h2
    simpa [ints, hk, List.getD_eq_getElem?_getD] using h2
set_option maxRecDepth 100000 in
set_option maxHeartbeats 4000000 in
theorem add130_any (g m base b lim : Nat) (hm : m ≤ 1000) (hm1 : 1 ≤ m) (w : World) (s : St) (hI : Inv g s) (hS : StR base b lim w s) (hbw : base ≤ w.heap.size) (hn : s.t.length ≤ 1000000) (hl0 : -1000000 ≤ s.live) (hl1 : s.live ≤ 1000000) :
    Calls Tryz.prog 77 #[.pointer (some ⟨b, 0, none⟩), .int .i64 (m : Int)] w fun e w' => e = .returned (.tuple #[]) ∧ StR base b lim w' (addS m s) ∧ Kf base w w' := by
  obtain ⟨hb, P, vr, vp, vq, bl, cs, f, hB, hC⟩ := hS
  obtain ⟨Ar, cr, rfl⟩ := owns_form hC.out
  have HB := Lib.hid hB
  have HC := Lib.hid hC
  have HBW := Lib.hid hbw
  have HBB := Lib.hid hb
  have hn0 : (s.t.length : Int) ≤ 1000000 := by omega
  have hm0 : (m : Int) ≤ 1000 := by omega
  clear hB hC hbw hb
  go_enter Tryz.func77, Tryz.ntmps77
  go_wp2_with fail
  go_loopg [4, 5] m (fun n v i wr => ∃ (k : Nat) (A : Option Addr) (c : Nat), i = .int .i64 (k : Int) ∧ n = m - k ∧ k ≤ m ∧ v = .slice A k c ∧ Hid (OwnI w.heap.size wr (.slice A k c) (List.replicate k (-1))) ∧ Hid (Below w.heap.size w wr))
  case atStart => exact ⟨0, none, 0, rfl, by omega, Nat.zero_le _, rfl, Lib.hid (World.ownsRow_nil _ _ _ _), Lib.hid (Below.refl _ _)⟩
  case round =>
    obtain ⟨k, Ak, ck, rfl, hgk, hk, rfl, HO, HBl⟩ := hrel
    have HGK := Lib.hid hgk
    clear hgk
    have hk0 : (0 : Int) ≤ (k : Int) := Int.natCast_nonneg _
    by_cases hlt : k < m
    · have hltI : (k : Int) < (m : Int) := by omega
      obtain ⟨A', c', w', hr, ho, hg, hw⟩ := push_int 22 22 Tryz.underlying22 wr w.heap.size _ _ HO.out (-1) (by simp; omega) HBl.out.size
      rw [List.length_replicate] at hr ho
      have hrep : List.replicate k (-1 : Int) ++ [-1] = List.replicate (k + 1) (-1) := by rw [List.replicate_succ']
      rw [hrep] at ho
      have HR := Lib.hid hr
      have HO2 := Lib.hid ho
      have HB2 := Lib.hid (HBl.out.grown hg HBl.out.size (fun r hr => (owns_block HO.out r hr).1))
      clear hr ho hg hw hrep
      go_wp2_with ((with_reducible refine wpList_sel 13 ?_); refine wpList_val rfl (r_app (.tmp 11) (.tmp 12) 22 rfl rfl rfl HR.out) ?_)
      go_roundg (m - (k + 1))
      case measure => have := HGK.out; omega
      case rel => exact ⟨k + 1, A', c', by go_num, rfl, by omega, rfl, HO2, HB2⟩
    · obtain rfl : k = m := by omega
      rename World => w1
      obtain ⟨g1, rfl⟩ : ∃ g1, Ak = some ⟨g1, 0, none⟩ := by
        obtain ⟨g1, c', e, -⟩ := ownI_cell HO.out (by simp; omega)
        injection e with e1
        exact ⟨g1, e1⟩
      have hxs := xs_own HO.out (by simp; omega)
      rw [List.length_replicate] at hxs
      have HXS := Lib.hid hxs
      have hB2 := HB.out.below HBl.out
      have hC2 := HC.out.toN.below HBl.out
      have hpl : P.length = s.t.length := HC.out.len
      rw [← hpl] at hB2 hC2
      obtain ⟨Ap, cp, rfl⟩ := owns_form hC2.par
      have HBX := Lib.hid hB2
      have HCX := Lib.hid hC2
      have HBE := Lib.hid (Kf.of HBl.out HBW.out)
      have HVR : Hid (∀ r, (Value.slice Ap P.length cp).ownBlock = some r → base ≤ r ∧ r ≠ b ∧ r ≠ g1) := Lib.hid fun r hr => ⟨(owns_block hC2.par r hr).1, (fun e => by
        obtain ⟨-, C, hCC⟩ := owns_block hC2.par r hr
        rw [e, hB2.box] at hCC
        cases hCC), fun e => by
        have h1 := owns_lt HC.out.par hr
        have h2 := hxs.2.1
        omega⟩
      have HVN : Hid (∀ r, (Value.slice Ap P.length cp).ownBlock = some r → r < w1.heap.size) := Lib.hid fun r hr => owns_lt hC2.par hr
      have HBN : Hid (b < w1.heap.size) := Lib.hid hB2.lt
      have HRO : Hid (Roots (P ++ [(P.length : Int)]) (addS k s)) := Lib.hid (by rw [hpl]; exact Roots.add hI HC.out.root k)
      have HOLD : Hid (∀ i, i < s.t.length → bl i < w.heap.size) := Lib.hid fun i hi => (HC.out.row i hi).2.1.lt
      have HQB : Hid (∀ r, vq.ownBlock = some r → r < w.heap.size) := Lib.hid fun r hr => owns_lt HC.out.que hr
      have HPAR : Hid (∀ (W : World) (h : Nat), CoreN base W s.t s.q P (.slice Ar P.length cr) (.slice Ap P.length cp) vq bl cs → Kf base w W → W.heap[h]? = some (.cells #[.int .i64 (P.length : Int)] 3 (0, 0)) →
          ∃ A' c' w3, (Builtin.append_ #[22, 22] 22 #[.slice Ap P.length cp, .slice (some ⟨h, 0, none⟩) 1 1]).run Tryz.prog W = .ok (.slice A' (P.length + 1) c') w3 ∧ CoreN base w3 s.t s.q (P ++ [(P.length : Int)]) (.slice Ar P.length cr) (.slice A' (P.length + 1) c') vq bl cs ∧ W.grownBy w3 (Value.slice Ap P.length cp).ownBlock) := Lib.hid fun W h hN hbl h1 =>
        hN.pushP (Nat.le_trans HBW.out hbl.size) (by rw [cell_of_row _ _ _ _ _ _ h1]; rfl) (by omega)
      clear hxs hB2 hC2
      go_wp2_with fail
      generalize w1 = w3 at *
      refine (wpIn_wide (n := 3)).1 ?_
      refine wpIn_region_all (by kernel_rfl) 15 rfl (fun i => if i < 14 then some (14 + i) else none) (lex_of (by kernel_rfl)) (fun ls W => ParT base w3.heap.size b lim g1 (List.replicate k (-1)) w s s.t P (.slice Ar P.length cr) (.slice Ap P.length cp) vq bl cs f (ls 11) (ls 14) W)
        (ParG base w3.heap.size s.t s.q P b (.slice Ar P.length cr) (.slice Ap P.length cp) vq bl cs) (Still w3.heap.size 11) (dm_inj (by kernel_rfl)) ParG.keep (dm_lt (n := 57) (by kernel_rfl)) ?_ ?_ ?_
      · have hd := (Below.refl w3.heap.size w3).drew
        exact ⟨fun _ => ⟨HBX.out.below hd, fun _ => HCX.out.below hd⟩, HBE.out.trans (Kf.of hd (Nat.le_trans HBW.out HBE.out.size)), hd.size, HXS.out.1.below hd, fun e => (by cases e)⟩
      · intro ls q o a w2 hq ho hS2 hls hcl hP hpre
        have hcases : q = 0 ∨ q = 1 ∨ q = 2 ∨ q = 3 ∨ q = 4 ∨ q = 5 ∨ q = 6 ∨ q = 7 ∨ q = 8 ∨ q = 9 ∨ q = 10 ∨ q = 11 ∨ q = 12 ∨ q = 13 ∨ q = 14 := by
          have : q < 15 := hq
          omega
        rcases hcases with rfl | rfl | rfl | rfl | rfl | rfl | rfl | rfl | rfl | rfl | rfl | rfl | rfl | rfl | rfl
        · obtain rfl := Option.some.inj ho
          exact wpOpIn_of rfl rfl (wpW_val (r_move (.tmp 0) rfl (hP.out 0 (dm_out (by kernel_rfl)))) ⟨_, rfl, hS2, Still.same, (fun h => by simp at h), rfl⟩)
        · obtain rfl := Option.some.inj ho
          exact wpOpIn_of rfl rfl (wpW_val (r_move (.tmp 0) rfl (hP.out 0 (dm_out (by kernel_rfl)))) ⟨_, rfl, hS2, Still.same, (fun h => by simp at h), rfl⟩)
        · obtain rfl := Option.some.inj ho
          exact wpOpIn_of rfl rfl (wpW_val (r_nil (.tmp 15) _ rfl (hpre ⟨1, .data⟩ (by simp) rfl).2) ⟨_, rfl, hS2, Still.same, (fun h => by simp at h), rfl⟩)
        · obtain rfl := Option.some.inj ho
          exact wpOpIn_of rfl rfl (wpW_val (r_fld (.tmp 16) _ rfl (hpre ⟨2, .data⟩ (by simp) rfl).2 (fld124_1 b _)) ⟨_, rfl, hS2, Still.same, (fun h => by simp at h), rfl⟩)
        · obtain rfl := Option.some.inj ho
          have h14 := not_yet hcl 14 rfl ⟨4, .phase⟩ (by simp) rfl hls
          exact wpOpIn_of rfl rfl (wpW_val (r_load1 22 agg24 (.tmp 17) ⟨b, 1, none⟩ rfl (hpre ⟨3, .data⟩ (by simp) rfl).2 (hS2.box h14).1.cells.2.1) ⟨_, rfl, hS2, Still.same, (fun h => by simp at h), rfl⟩)
        · obtain rfl := Option.some.inj ho
          exact wpOpIn_of rfl rfl (wpW_val (r_move (.tmp 0) rfl (hP.out 0 (dm_out (by kernel_rfl)))) ⟨_, rfl, hS2, Still.same, (fun h => by simp at h), rfl⟩)
        · obtain rfl := Option.some.inj ho
          exact wpOpIn_of rfl rfl (wpW_val (r_nil (.tmp 19) _ rfl (hpre ⟨5, .data⟩ (by simp) rfl).2) ⟨_, rfl, hS2, Still.same, (fun h => by simp at h), rfl⟩)
        · obtain rfl := Option.some.inj ho
          exact wpOpIn_of rfl rfl (wpW_val (r_fld (.tmp 20) _ rfl (hpre ⟨6, .data⟩ (by simp) rfl).2 (fld124_0 b _)) ⟨_, rfl, hS2, Still.same, (fun h => by simp at h), rfl⟩)
        · obtain rfl := Option.some.inj ho
          have h14 := not_yet hcl 14 rfl ⟨8, .phase⟩ (by simp) rfl hls
          exact wpOpIn_of rfl rfl (wpW_val (r_load1 29 agg23 (.tmp 21) ⟨b, 0, none⟩ rfl (hpre ⟨7, .data⟩ (by simp) rfl).2 (hS2.box h14).1.cells.1) ⟨_, rfl, hS2, Still.same, (fun h => by simp at h), rfl⟩)
        · obtain rfl := Option.some.inj ho
          exact wpOpIn_of rfl rfl (wpW_val (r_len (.tmp 22) 29 Ar P.length cr Tryz.underlying29 rfl (hpre ⟨8, .data⟩ (by simp) rfl).2) ⟨_, rfl, hS2, Still.same, (fun h => by simp at h), rfl⟩)
        · obtain rfl := Option.some.inj ho
          have h14 := not_yet hcl 14 rfl ⟨10, .phase⟩ (by simp) rfl hls
          have e9 := (hpre ⟨9, .data⟩ (by simp) rfl).2
          have hbl : Below w2.heap.size w2 (w2.alloc (.cells #[.int .i64 (P.length : Int)] 3)) := (Below.refl _ _).alloc (Nat.le_refl _) _
          exact wpOpIn_of rfl rfl (wpW_val (r_bs24 (.tmp 23) (P.length : Int) rfl e9) ⟨_, rfl, hS2.below h14 HBW.out hbl, Still.of_below hbl, (fun h => by simp at h), _, rfl, hS2.siz, heap_alloc_new w2 _⟩)
        · obtain rfl := Option.some.inj ho
          have h14 : ls 14 = false := not_yet hcl 14 rfl ⟨11, .data⟩ (by simp) rfl hls
          have e4 := (hpre ⟨4, .data⟩ (by simp) rfl).2
          obtain ⟨h7, e7, hh7, hc7⟩ := (hpre ⟨10, .data⟩ (by simp) rfl).2
          obtain ⟨A', c', w3, hrun, hC3, hgr⟩ := HPAR.out w2 h7 ((hS2.box h14).2 hls) hS2.bel hc7
          exact wpOpIn_of rfl rfl (wpW_val (r_app (.tmp 18) (.tmp 24) 22 rfl e4 e7 hrun) ⟨_, rfl, hS2.app hls h14 HBW.out hgr HVR.out, Still.grown hgr HVN.out, (fun h => by simp at h), A', c', rfl, hC3⟩)
        · obtain rfl := Option.some.inj ho
          exact wpOpIn_of rfl rfl (wpW_val (r_nil (.tmp 14) _ rfl (hpre ⟨0, .data⟩ (by simp) rfl).2) ⟨_, rfl, hS2, Still.same, (fun h => by simp at h), rfl⟩)
        · obtain rfl := Option.some.inj ho
          exact wpOpIn_of rfl rfl (wpW_val (r_fld (.tmp 26) _ rfl (hpre ⟨12, .data⟩ (by simp) rfl).2 (fld124_1 b _)) ⟨_, rfl, hS2, Still.same, (fun h => by simp at h), rfl⟩)
        · obtain rfl := Option.some.inj ho
          obtain ⟨A', c', e12, hC3⟩ := (hpre ⟨11, .data⟩ (by simp) rfl).2
          have hBx := (hS2.box hls).1
          rw [e12] at hC3
          exact wpOpIn_of rfl rfl (wpW_skip (r_store1 22 (.tmp 27) (.tmp 25) ⟨b, 1, none⟩ _ _ rfl (hpre ⟨13, .data⟩ (by simp) rfl).2 e12 rfl hBx.cells.2.1 (hBx.frozen 1) (st24 _ _ A' _ c' hBx.cells.2.1 (hBx.frozen 1))) ⟨undef, rfl, hS2.fin hls HBB.out hC3, Still.boxR hBx.box HBN.out _ _, fun _ => rfl, rfl⟩)
      · intro ls a w4 hall hS2 hP hsl
        have h14 : ls 14 = true := hall 14 (by decide)
        obtain ⟨A2, c2', hB4, hC4⟩ := hS2.done h14
        have hb4 := hS2.bel
        have hS2R := hS2.row
        obtain ⟨vs2, hvs, hfr⟩ := hP.frame 57 rfl
        clear hsl hP hall h14 hvs hS2 HPAR HVR HVN HBX HCX HBE HBN
        subst hfr
        dsimp only
        simp only [List.range, List.range.loop, List.map_cons, List.map_nil, List.any_cons, List.any_nil, Nat.reduceAdd, Nat.reduceBEq, Nat.reduceLT, Option.some_beq_some, Bool.or_false, if_true, if_false, List.getD_cons_zero, List.getD_cons_succ]
        have hx4 := hS2R
        have hbl : Below w4.heap.size w4 (w4.alloc (.cells #[.slice (some ⟨g1, 0, none⟩) k ck] 22)) := (Below.refl _ _).alloc (Nat.le_refl _) _
        have hws : base ≤ w4.heap.size := Nat.le_trans HBW.out hb4.size
        have hpn : (Value.slice A2 (P.length + 1) c2').ownBlock ≠ some g1 := par_ne (by have h := hC4.par; exact h) (by simp) (by
          rcases Nat.eq_zero_or_pos P.length with h0 | h0
          · rw [List.length_eq_zero_iff.1 h0]; simp
          · obtain ⟨y, hy, -⟩ := (HC.out.root.root 0 (by omega)).parent
            rw [List.getD_eq_getElem?_getD, List.getElem?_append_left h0, ← List.getD_eq_getElem?_getD, hy]
            omega) hx4 hm1
        obtain ⟨A6, c6, w6, hr6, hC6, hg6⟩ := (hC4.below hbl).pushRowR (g := g1) (h0 := w4.heap.size) (m := k) (cap := ck) (x := List.replicate k (-1)) (Nat.le_trans hws hbl.size) (Nat.le_trans HBW.out HXS.out.2.1) (hx4.below hbl) (by simp) hm HXS.out.2.2.1 HXS.out.2.2.2 (fun i hi e => by have := HOLD.out i hi; have := HXS.out.2.1; omega) hpn (fun e => by have := HQB.out _ e; have := HXS.out.2.1; omega) (by rw [cell_of_row _ _ _ _ _ _ (heap_alloc_new w4 _)]; rfl) hn
        have hnb : (Value.slice Ar P.length cr).ownBlock ≠ some b := fun e => by
          obtain ⟨-, C, hCC⟩ := owns_block hC4.out b e
          rw [hB4.box] at hCC
          cases hCC
        have hB6 := (hB4.below hbl).grown hg6 hnb
        have hb6 : Kf base w w6 := (hb4.trans (Kf.of hbl hws)).grown hg6 (Nat.le_trans hws hbl.size) (owns_kf (hC4.below hbl).out (by decide))
        have hB7 := hB6.upd0 (s' := s) (.slice A6 (s.t.length + 1) c6) rfl rfl
        have hC7 := hC6.other hB6.box (by decide) (by decide) 0 (.slice A6 (s.t.length + 1) c6)
        have hb7 := hb6.setCell (p := ⟨b, 0, none⟩) HBB.out ⟨_, 102, hB6.box, by decide⟩ (.slice A6 (s.t.length + 1) c6)
        have hB8 := hB7.upd4 (s' := { s with live := s.live + 1 }) (z := s.live + 1) rfl rfl
        have hC8 := hC7.other hB7.box (by decide) (by decide) 4 (.int .i64 (s.live + 1))
        have hb8 := hb7.setCell (p := ⟨b, 4, none⟩) HBB.out ⟨_, 102, hB7.box, by decide⟩ (.int .i64 (s.live + 1))
        obtain ⟨d0, -, -, -, -, -, -⟩ := hB4.cells
        obtain ⟨e0, -, -, -, -, -, -⟩ := hB6.cells
        have ef := hB6.frozen 0
        obtain ⟨-, -, -, -, f4, -, -⟩ := hB7.cells
        have ff := hB7.frozen 4
        have HR6 := Lib.hid hr6
        have hd := (Below.refl ((w6.setCell ⟨b, 0, none⟩ (.slice A6 (s.t.length + 1) c6)).setCell ⟨b, 4, none⟩ (.int .i64 (s.live + 1))).heap.size ((w6.setCell ⟨b, 0, none⟩ (.slice A6 (s.t.length + 1) c6)).setCell ⟨b, 4, none⟩ (.int .i64 (s.live + 1)))).drew
        have hB9 := hB8.below hd
        have hC9 := hC8.below hd
        have hb9 := hb8.trans (Kf.of hd (Nat.le_trans HBW.out hb8.size))
        have HC6 := Lib.hid hB9.cells.2.2.2.2.2.1
        have HC5 := Lib.hid hB9.cells.2.2.2.2.1
        have HF6 := Lib.hid (hB9.frozen 5)
        have hBa := hB9.upd5 (s' := addS k s) (z := max s.most (s.live + 1)) rfl rfl
        have hCa := hC9.other hB9.box (by decide) (by decide) 5 (.int .i64 (max s.most (s.live + 1)))
        have hba := hb9.setCell (p := ⟨b, 5, none⟩) HBB.out ⟨_, 102, hB9.box, by decide⟩ (.int .i64 (max s.most (s.live + 1)))
        have HST : Hid (StR base b lim (((w6.setCell ⟨b, 0, none⟩ (.slice A6 (s.t.length + 1) c6)).setCell ⟨b, 4, none⟩ (.int .i64 (s.live + 1))).drew.setCell ⟨b, 5, none⟩ (.int .i64 (max s.most (s.live + 1)))) (addS k s)) := Lib.hid ⟨HBB.out, _, _, _, vq, _, _, f, hBa, CoreN.toM (s := addS k s) hCa HRO.out⟩
        have HBE := Lib.hid hba
        have hp0 : (0 : Int) ≤ (P.length : Int) := Int.natCast_nonneg _
        have hp1 : (P.length : Int) ≤ 1000000 := by omega
        clear hpl hx4 hS2R hB4 hC4 hb4 hbl hws hpn hr6 hC6 hg6 hnb hB6 hb6 hB7 hC7 hb7 hB8 hC8 hb8 hd hB9 hC9 hb9 hBa hCa hba
        go_wp2_with ((with_reducible refine wpList_sel 35 ?_); refine wpList_val rfl (r_app (.tmp 32) (.tmp 34) 29 rfl rfl rfl HR6.out) ?_)
        refine (wpIn_wide (n := 3)).1 ?_
        generalize hw5 : (w6.setCell ⟨b, 0, none⟩ (.slice A6 (s.t.length + 1) c6)).setCell ⟨b, 4, none⟩ (.int .i64 (s.live + 1)) = w5 at *
        refine wpIn_region_all (by kernel_rfl) 13 rfl (fun i => if i < 12 then some (45 + i) else none) (lex_of (by kernel_rfl)) (fun ls W => W = bif ls 12 then w5.drew.setCell ⟨b, 5, none⟩ (.int .i64 (max s.most (s.live + 1))) else w5.drew)
          (fun i v _ => v = ([.pointer (some ⟨b, 0, none⟩), .pointer (some ⟨b, 0, none⟩), .pointer (some ⟨b, 0, none⟩), .pointer (some ⟨b, 5, none⟩), .int .i64 s.most, .pointer (some ⟨b, 0, none⟩), .pointer (some ⟨b, 0, none⟩), .pointer (some ⟨b, 4, none⟩), .int .i64 (s.live + 1), .int .i64 (max s.most (s.live + 1)), .pointer (some ⟨b, 0, none⟩), .pointer (some ⟨b, 5, none⟩), undef] : List Value).getD i undef) (fun _ _ _ => True) (dm_inj (by kernel_rfl)) (fun _ _ _ _ _ _ _ _ _ h => h) (dm_lt (n := 57) (by kernel_rfl)) rfl ?_ ?_
        · intro ls q o a w2 hq ho hS2 hls hcl hP hpre
          have hcases : q = 0 ∨ q = 1 ∨ q = 2 ∨ q = 3 ∨ q = 4 ∨ q = 5 ∨ q = 6 ∨ q = 7 ∨ q = 8 ∨ q = 9 ∨ q = 10 ∨ q = 11 ∨ q = 12 := by
            have : q < 13 := hq
            omega
          rcases hcases with rfl | rfl | rfl | rfl | rfl | rfl | rfl | rfl | rfl | rfl | rfl | rfl | rfl
          · obtain rfl := Option.some.inj ho
            exact wpOpIn_of rfl rfl (wpW_val (r_move (.tmp 0) rfl (hP.out 0 (dm_out (by kernel_rfl)))) ⟨_, rfl, hS2, trivial, (fun h => by simp at h), rfl⟩)
          · obtain rfl := Option.some.inj ho
            exact wpOpIn_of rfl rfl (wpW_val (r_move (.tmp 0) rfl (hP.out 0 (dm_out (by kernel_rfl)))) ⟨_, rfl, hS2, trivial, (fun h => by simp at h), rfl⟩)
          · obtain rfl := Option.some.inj ho
            exact wpOpIn_of rfl rfl (wpW_val (r_nil (.tmp 46) _ rfl (hpre ⟨1, .data⟩ (by simp) rfl).2) ⟨_, rfl, hS2, trivial, (fun h => by simp at h), rfl⟩)
          · obtain rfl := Option.some.inj ho
            exact wpOpIn_of rfl rfl (wpW_val (r_fld (.tmp 47) _ rfl (hpre ⟨2, .data⟩ (by simp) rfl).2 (fld124_5 b _)) ⟨_, rfl, hS2, trivial, (fun h => by simp at h), rfl⟩)
          · obtain rfl := Option.some.inj ho
            have h12 := not_yet hcl 12 rfl ⟨4, .phase⟩ (by simp) rfl hls
            have hW := sel1 hS2 h12
            exact wpOpIn_of rfl rfl (wpW_val (r_load1 3 agg3 (.tmp 48) ⟨b, 5, none⟩ rfl (hpre ⟨3, .data⟩ (by simp) rfl).2 (by rw [hW]; exact HC6.out)) ⟨_, rfl, hS2, trivial, (fun h => by simp at h), rfl⟩)
          · obtain rfl := Option.some.inj ho
            exact wpOpIn_of rfl rfl (wpW_val (r_move (.tmp 0) rfl (hP.out 0 (dm_out (by kernel_rfl)))) ⟨_, rfl, hS2, trivial, (fun h => by simp at h), rfl⟩)
          · obtain rfl := Option.some.inj ho
            exact wpOpIn_of rfl rfl (wpW_val (r_nil (.tmp 50) _ rfl (hpre ⟨5, .data⟩ (by simp) rfl).2) ⟨_, rfl, hS2, trivial, (fun h => by simp at h), rfl⟩)
          · obtain rfl := Option.some.inj ho
            exact wpOpIn_of rfl rfl (wpW_val (r_fld (.tmp 51) _ rfl (hpre ⟨6, .data⟩ (by simp) rfl).2 (fld124_4 b _)) ⟨_, rfl, hS2, trivial, (fun h => by simp at h), rfl⟩)
          · obtain rfl := Option.some.inj ho
            have h12 := not_yet hcl 12 rfl ⟨8, .phase⟩ (by simp) rfl hls
            have hW := sel1 hS2 h12
            exact wpOpIn_of rfl rfl (wpW_val (r_load1 3 agg3 (.tmp 52) ⟨b, 4, none⟩ rfl (hpre ⟨7, .data⟩ (by simp) rfl).2 (by rw [hW]; exact HC5.out)) ⟨_, rfl, hS2, trivial, (fun h => by simp at h), rfl⟩)
          · obtain rfl := Option.some.inj ho
            exact wpOpIn_of rfl rfl (wpW_val (r_max2 (.tmp 49) (.tmp 53) s.most (s.live + 1) _ rfl (hpre ⟨4, .data⟩ (by simp) rfl).2 (hpre ⟨8, .data⟩ (by simp) rfl).2 rfl) ⟨_, rfl, hS2, trivial, (fun h => by simp at h), rfl⟩)
          · obtain rfl := Option.some.inj ho
            exact wpOpIn_of rfl rfl (wpW_val (r_nil (.tmp 45) _ rfl (hpre ⟨0, .data⟩ (by simp) rfl).2) ⟨_, rfl, hS2, trivial, (fun h => by simp at h), rfl⟩)
          · obtain rfl := Option.some.inj ho
            exact wpOpIn_of rfl rfl (wpW_val (r_fld (.tmp 55) _ rfl (hpre ⟨10, .data⟩ (by simp) rfl).2 (fld124_5 b _)) ⟨_, rfl, hS2, trivial, (fun h => by simp at h), rfl⟩)
          · obtain rfl := Option.some.inj ho
            have hW := sel1 hS2 hls
            subst hW
            exact wpOpIn_of rfl rfl (wpW_skip (r_store1 3 (.tmp 56) (.tmp 54) ⟨b, 5, none⟩ _ _ rfl (hpre ⟨11, .data⟩ (by simp) rfl).2 (hpre ⟨9, .data⟩ (by simp) rfl).2 rfl HC6.out HF6.out (st3 _ _ _ HC6.out HF6.out)) ⟨undef, rfl, rfl, trivial, fun _ => rfl, rfl⟩)
        · intro ls a w6 hall hS2 hP hsl
          have h12 : ls 12 = true := hall 12 (by decide)
          rw [h12] at hS2
          obtain ⟨vs3, hvs, hfr⟩ := hP.frame 57 rfl
          clear hsl hP hall h12 hvs HC6 HC5 HF6 hw5
          subst hfr
          change w6 = w5.drew.setCell ⟨b, 5, none⟩ (.int .i64 (max s.most (s.live + 1))) at hS2
          rw [← hS2] at HST HBE
          clear hS2
          dsimp only
          simp only [List.range, List.range.loop, List.map_cons, List.map_nil, List.any_cons, List.any_nil, Nat.reduceAdd, Nat.reduceBEq, Nat.reduceLT, Option.some_beq_some, Bool.or_false, if_true, if_false, List.getD_cons_zero, List.getD_cons_succ]
          try go_wp2_with fail
          go_end0
          exact ⟨rfl, HST.out, HBE.out⟩
end Go.Proofs
namespace Go.Proofs
open Go.RowKit Go.Shelf Go.Proofs.Ct Go.Maps
theorem StR.tops {base b lim : Nat} {w : World} {s : St} (h : StR base b lim w s) : ∃ A c, w.cell? ⟨b, 0, none⟩ = some (.slice A s.t.length c) ∧ w.cell? ⟨b, 3, none⟩ = some (.int .i64 (lim : Int)) ∧ w.cell? ⟨b, 5, none⟩ = some (.int .i64 s.most) := by
  obtain ⟨-, P, vr, vp, vq, bl, cs, f, hB, hC⟩ := h
  obtain ⟨A, c, rfl⟩ := owns_form hC.out
  exact ⟨A, c, hB.cells.1, hB.cells.2.2.2.1, hB.cells.2.2.2.2.2.1⟩
set_option maxRecDepth 100000 in
set_option maxHeartbeats 2000000 in
theorem define132_full (base b : Nat) (r c : Int) (w : World) (s : St) (hS : StR base b s.t.length w s) (hbw : base ≤ w.heap.size) (hn : s.t.length ≤ 1000000) :
    Calls Tryz.prog 79 #[.pointer (some ⟨b, 0, none⟩), .int .i64 r, .int .i64 c] w fun e w' => e = .returned (.bool false) ∧ Kf base w w' := by
  obtain ⟨hb, P, vr, vp, vq, bl, cs, f, hB, hC⟩ := hS
  obtain ⟨A, c0, rfl⟩ := owns_form hC.out
  obtain ⟨c1, -, -, c2, -, -, c3⟩ := hB.cells
  have f3 := hB.frozen 6
  have hn0 : (s.t.length : Int) ≤ 1000000 := by omega
  have d1 : decide ((s.t.length : Int) ≤ (s.t.length : Int)) = true := by simp
  have HBN := Lib.hid hb
  have HBX := Lib.hid hB.box
  have HBW := Lib.hid hbw
  clear hB hC hb hbw
  go_enter Tryz.func79, Tryz.ntmps79
  go_wp2_with fail
  go_quiet (fail)
  go_wp2_with fail
  go_ret
  exact ⟨rfl, ((Kf.refl base w).drewN _).setCell HBN.out ⟨_, 102, HBX.out, by decide⟩ _⟩
set_option maxRecDepth 100000 in
set_option maxHeartbeats 4000000 in
theorem define132_any (g m base b lim r c : Nat) (hm : m = 2 * g) (hg : g ≤ 16) (hg1 : 1 ≤ g) (w : World) (s : St) (hR : Ct.Rest g s) (hS : StR base b lim w s) (hbw : base ≤ w.heap.size) (hn : s.t.length + 1 ≤ 1000000) (hr : r < s.t.length) (hc : c < m) (hne : s.t.length < lim) :
    Calls Tryz.prog 79 #[.pointer (some ⟨b, 0, none⟩), .int .i64 (r : Int), .int .i64 (c : Int)] w fun e w' => e = .returned (.bool true) ∧ StR base b lim w' (defS m s r c) ∧ Kf base w w' := by
  have hlv : -1000000 ≤ s.live ∧ s.live ≤ 1000000 := by
    have h1 := hR.lv
    have h2 := dc_le s
    omega
  have HA : Hid (∀ W, Below w.heap.size w W → Calls Tryz.prog 77 #[.pointer (some ⟨b, 0, none⟩), .int .i64 (m : Int)] W fun e w' => e = .returned (.tuple #[]) ∧ StR base b lim w' (addS m s) ∧ Kf base W w') := Lib.hid fun W hW => add130_any g m base b lim (by omega) (by omega) W s hR.inv (hS.below hW) (Nat.le_trans hbw hW.size) (by omega) hlv.1 hlv.2
  obtain ⟨A, c0, -, c2, -⟩ := hS.tops
  obtain ⟨gr, cr, bl, cs, c1, hv1, -⟩ := hS.view hR.inv.len (by omega)
  have c3 := hv1 r hr
  rw [← hm] at c3
  generalize bl r = br at *
  generalize cs r = kr at *
  have hI2 : Inv g (addS m s) := by rw [hm]; exact hR.add.inv
  have HI2 := Lib.hid hI2
  have hlen : (addS m s).t.length = s.t.length + 1 := length_add m
  have hn0 : (s.t.length : Int) ≤ 1000000 := by omega
  have hnl : (s.t.length : Int) < (lim : Int) := by omega
  have hnn : (0 : Int) ≤ (s.t.length : Int) := Int.natCast_nonneg _
  have hr0 : (0 : Int) ≤ (r : Int) := Int.natCast_nonneg _
  have hr1 : (r : Int) < (s.t.length : Int) := by omega
  have hcc0 : (0 : Int) ≤ (c : Int) := Int.natCast_nonneg _
  have hcc1 : (c : Int) < (m : Int) := by omega
  have HM := Lib.hid hm
  have HBW := Lib.hid hbw
  have HB0 : Hid (∀ q, Below w.heap.size w (w.drewN q)) := Lib.hid fun q => below_drewN (Below.refl _ _) q
  have HN := Lib.hid hlen
  have hfe := flp_eq c (by omega)
  have hfg : flp c < 2 * g := flp_lt2 (by omega)
  have hf0 : (0 : Int) ≤ ((flp c : Nat) : Int) := Int.natCast_nonneg _
  have hf1 : ((flp c : Nat) : Int) < (m : Int) := by omega
  have hmI : (m : Int) ≤ 32 := by omega
  clear hS hR hbw hv1 hI2 hlen hlv hm
  go_enter Tryz.func79, Tryz.ntmps79
  go_wp2_with fail
  go_quiet (fail)
  go_upto_region 6 with (first
    | (go_at_call 77; (with_reducible refine (HA.out _ (HB0.out _)).mono ?_); rintro E w1 ⟨rfl, hs1, hb1⟩
       have HS1 := Lib.hid hs1
       have HB1 := Lib.hid (((Kf.refl base w).drewN _).trans hb1)
       clear hs1 hb1))
  clear c1 c2 c3
  obtain ⟨gr1, cr1, bl1, cs1, p1, hv1, hv2⟩ := HS1.out.view HI2.out.len (by rw [HN.out]; omega)
  have p2 := hv1 r (by rw [HN.out]; omega)
  obtain ⟨p3, p4, p5⟩ := hv2 r c (by rw [HN.out]; omega) (by rw [← HM.out]; exact hc)
  rw [HN.out] at p1
  rw [← HM.out] at p2
  generalize bl1 r = br1 at *
  generalize cs1 r = kr1 at *
  have hst := (p5 (s.t.length : Int)).1
  have HB2 := Lib.hid (HB1.out.trans (p5 (s.t.length : Int)).2)
  have hlen2 : ({ addS m s with t := set2 (addS m s).t r c (s.t.length : Int) } : St).t.length = s.t.length + 1 := (length_set2 _ _ _ _).trans HN.out
  obtain ⟨gr2, cr2, bl2, cs2, q1, hv3, hv4⟩ := hst.view (inv_len1 HI2.out r c _) (by rw [hlen2]; omega)
  have q2 := hv3 s.t.length (by rw [hlen2]; omega)
  obtain ⟨q3, q4, q5⟩ := hv4 s.t.length (flp c) (by rw [hlen2]; omega) hfg
  rw [hlen2] at q1
  rw [← HM.out] at q2
  generalize bl2 s.t.length = br2 at *
  generalize cs2 s.t.length = kr2 at *
  have HST : Hid (StR base b lim _ (defS m s r c)) := Lib.hid (q5 (r : Int)).1
  have HB3 := Lib.hid (HB2.out.trans (q5 (r : Int)).2)
  have HQ := Lib.hid (⟨q1, q2, q3, q4⟩ : _ ∧ _ ∧ _ ∧ _)
  have hrn : (r : Int) < (((s.t.length + 1 : Nat)) : Int) := by omega
  have hnn1 : (s.t.length : Int) < (((s.t.length + 1 : Nat)) : Int) := by omega
  clear hv1 hv2 hv3 hv4 p5 q1 q2 q3 q4 q5 hst hlen2
  go_upto_region 7 with fail
  generalize w1.setCell ⟨br1, c, none⟩ (.int .i64 (s.t.length : Int)) = w2 at *
  clear p1 p2 p3 p4
  obtain ⟨q1, q2, q3, q4⟩ := HQ.out
  go_wp2_with fail
  go_ret
  exact ⟨rfl, HST.out, HB3.out⟩
end Go.Proofs
namespace Go.Proofs
open Go.RowKit Go.Shelf Go.Proofs.Ct Go.Maps
def fullP : List PanicEntry := [{ v := .iface 80 (.agg #[]), recovered := false }]
set_option maxRecDepth 100000 in
set_option maxHeartbeats 4000000 in
theorem add126_full (m base b : Nat) (w : World) (s : St) (hS : StP base b m s.t.length w s) (hbw : base ≤ w.heap.size) (hn : s.t.length ≤ 1000000) :
    Calls Tryz.prog 63 #[.pointer (some ⟨b, 0, none⟩)] w fun e w' => e = .panicked fullP ∧ Below base w w' := by
  obtain ⟨hb, P, vr, vp, vq, bl, cs, hB, hC⟩ := hS
  obtain ⟨Ar, cr, rfl⟩ := owns_form hC.out
  obtain ⟨-, c1, c2, -, -, -, -⟩ := hB.cells
  have hn0 : (s.t.length : Int) ≤ 1000000 := by omega
  have d1 : ((s.t.length : Int) == (s.t.length : Int)) = true := by simp
  clear hC hB
  go_enter Tryz.func63, Tryz.ntmps63
  go_wp2_with fail
  go_region
  go_wp2_with fail
  exact ⟨rfl, rfl, (Below.refl w.heap.size w).drew.mono hbw⟩
set_option maxRecDepth 100000 in
set_option maxHeartbeats 4000000 in
theorem define128_any (g m base b lim r c : Nat) (hm : m = 2 * g) (hg : g ≤ 16) (w : World) (s : St) (hR : Ct.Rest g s) (hS : StP base b m lim w s) (hbw : base ≤ w.heap.size) (hn : s.t.length + 1 ≤ 1000000) (hr : r < s.t.length) (hc : c < m) (hne : s.t.length ≠ lim) :
    Calls Tryz.prog 65 #[.pointer (some ⟨b, 0, none⟩), .int .i64 (r : Int), .int .i64 (c : Int)] w fun e w' => e = .returned (.tuple #[]) ∧ StP base b m lim w' (defS m s r c) ∧ Below base w w' := by
  have hlv : -1000000 ≤ s.live ∧ s.live ≤ 1000000 := by
    have h1 := hR.lv
    have h2 := dc_le s
    omega
  have HA := Lib.hid (add126_any g m base b lim (by omega) w s hR.inv hS hbw (by omega) hlv.1 hlv.2 hne)
  have HI : Hid (Inv g (addS m s)) := Lib.hid (by rw [hm]; exact hR.add.inv)
  have hlen : (addS m s).t.length = s.t.length + 1 := length_add m
  have HJ : Hid (∀ W, StP base b m lim W (addS m s) → base ≤ W.heap.size → Calls Tryz.prog 89 #[.pointer (some ⟨b, 0, none⟩), .int .i64 (r : Int), .int .i64 (c : Int), .int .i64 (s.t.length : Int)] W fun e w' => e = .returned (.tuple #[]) ∧ StP base b m lim w' (defS m s r c) ∧ Below base W w') := Lib.hid fun W h hw =>
    join149_any g base b m lim r c s.t.length W (addS m s) HI.out hg h hw (by omega) (by omega) (by omega) (by omega)
  have HBW := Lib.hid hbw
  clear hS hR hbw
  go_enter Tryz.func65, Tryz.ntmps65
  go_wp2_with (first
    | (go_at_call 63; (with_reducible refine HA.out.mono ?_); rintro E w1 ⟨rfl, hs1, hb1⟩
       have HS1 := Lib.hid hs1
       have HB1 := Lib.hid hb1
       clear hs1 hb1)
    | (go_at_call 89; (with_reducible refine (HJ.out _ HS1.out (Nat.le_trans HBW.out HB1.out.size)).mono ?_); rintro E w2 ⟨rfl, hs2, hb2⟩
       have HS2 := Lib.hid hs2
       have HB2 := Lib.hid hb2
       clear hs2 hb2))
  try simp only [Exit.inBlock, Exit.then]
  go_end0
  exact ⟨rfl, HS2.out, HB1.out.trans HB2.out⟩
set_option maxRecDepth 100000 in
set_option maxHeartbeats 4000000 in
theorem define128_full (m base b r c : Nat) (w : World) (s : St) (hS : StP base b m s.t.length w s) (hbw : base ≤ w.heap.size) (hn : s.t.length ≤ 1000000) :
    Calls Tryz.prog 65 #[.pointer (some ⟨b, 0, none⟩), .int .i64 (r : Int), .int .i64 (c : Int)] w fun e w' => e = .panicked fullP ∧ Below base w w' := by
  have HA := Lib.hid (add126_full m base b w s hS hbw hn)
  clear hS hbw
  go_enter Tryz.func65, Tryz.ntmps65
  go_wp2_with (first
    | (go_at_call 63; (with_reducible refine HA.out.mono ?_); rintro E w1 ⟨rfl, hb1⟩
       have HB1 := Lib.hid hb1
       clear hb1))
  exact ⟨rfl, rfl, HB1.out⟩
end Go.Proofs
namespace Go.Proofs
open Go.RowKit Go.Shelf Go.Proofs.Ct Go.Maps
theorem StP.below {base b m lim : Nat} {w w' : World} {s : St} (hS : StP base b m lim w s) (hb : Below w.heap.size w w') : StP base b m lim w' s := by
  obtain ⟨h, P, vr, vp, vq, bl, cs, hB, hC⟩ := hS
  exact ⟨h, P, vr, vp, vq, bl, cs, hB.below hb, hC.below hb⟩
def openV : Option (Nat × Nat) → Value
  | none => .tuple #[.int .i64 0, .int .i64 0, .bool false]
  | some (f, c) => .tuple #[.int .i64 (f : Int), .int .i64 (c : Int), .bool true]
set_option maxRecDepth 100000 in
set_option maxHeartbeats 4000000 in
theorem scan147_any (g m base b lim r : Nat) (hm : m = 2 * g) (hg : g ≤ 16) (w : World) (s : St) (u : Value) (ws : W) (hR : Ct.Rest g s) (hS : StP base b m lim w s) (hbw : base ≤ w.heap.size) (hn : s.t.length ≤ 1000000) (hu : IntsAt w u ws) (hl : LOk g ws) (hr : r < s.t.length) (hlr : s.rp r = r) :
    Calls Tryz.prog 87 #[.pointer (some ⟨b, 0, none⟩), .int .i64 (r : Int), u] w fun e w' => e = .returned (openV (scanS m s r ws).2) ∧ StP base b m lim w' (scanS m s r ws).1 ∧ Below base w w' := by
  obtain ⟨Au, cu, rfl, hu1, hu2, hu3⟩ := hu.open_
  have HU := Lib.hid hu3
  have HR := Lib.hid hR
  have HL := Lib.hid hl
  have HLI := Lib.hid hl.inv
  have HM := Lib.hid hm
  have HBW := Lib.hid hbw
  have HS : Hid (∀ q, StP base b m lim (w.drewN q) s) := Lib.hid fun q => hS.below (below_drewN (Below.refl _ _) q)
  have HBE : Hid (∀ q, Below base w (w.drewN q)) := Lib.hid fun q => below_drewN (Below.refl _ _) q
  have HAT : Hid (∀ r c, r < s.t.length → c < 2 * g → ∃ gr cr br k, w.cell? ⟨b, 2, none⟩ = some (.slice (some ⟨gr, 0, none⟩) s.t.length cr) ∧ w.cell? ⟨gr, r, none⟩ = some (.slice (some ⟨br, 0, none⟩) m k) ∧ w.cell? ⟨br, c, none⟩ = some (.int .i64 (s.t.at r c))) := Lib.hid fun r c h1 h2 => by
    obtain ⟨gr, cr, br, k, a1, a2, a3⟩ := hS.at_ hR.inv h1 h2
    rw [← hm] at a2
    exact ⟨gr, cr, br, k, a1, a2, a3⟩
  have HCO : Hid (∀ (x : Int) n, -(g : Int) ≤ x ∧ x ≤ g ∧ x ≠ 0 → Calls Tryz.prog 59 #[.int .i64 x] (w.drewN n) fun e w' => e = .returned (.int .i64 (col x : Nat)) ∧ w.drewN n = w') := Lib.hid fun x n h => col133_any _ _ (by omega)
  have HLV : Hid (∀ k, k ≤ ws.length → 0 ≤ leadTo s.t r ws k → (leadTo s.t r ws k).toNat < s.t.length) := Lib.hid fun k h1 h2 => (lead_live hR hl hr hlr k h1 h2).1
  have HLB : Hid (∀ k, k ≤ ws.length → 0 ≤ leadTo s.t r (Ct.inv ws) k → (leadTo s.t r (Ct.inv ws) k).toNat < s.t.length) := Lib.hid fun k h1 h2 => (lead_live hR hl.inv hr hlr k (by rw [length_inv]; exact h1) h2).1
  have HCN : Hid (∀ q x y, x < s.t.length → y < s.t.length → Calls Tryz.prog 100 #[.pointer (some ⟨b, 0, none⟩), .int .i64 (x : Int), .int .i64 (y : Int)] (w.drewN q) fun e w' => e = .returned (.tuple #[]) ∧ StP base b m lim w' (coinS m s x y) ∧ Below base (w.drewN q) w') := Lib.hid fun q x y h1 h2 =>
    coincide152_any g m base b lim x y hm _ s hR hg (HS.out q) (Nat.le_trans hbw (HBE.out q).size) h1 h2 hn
  have HJO : Hid (∀ q x c y, x < s.t.length → y < s.t.length → c < 2 * g → Calls Tryz.prog 89 #[.pointer (some ⟨b, 0, none⟩), .int .i64 (x : Int), .int .i64 (c : Int), .int .i64 (y : Int)] (w.drewN q) fun e w' => e = .returned (.tuple #[]) ∧ StP base b m lim w' (joinS s x c y) ∧ Below base (w.drewN q) w') := Lib.hid fun q x c y h1 h2 h3 =>
    join149_any g base b m lim x c y _ s hR.inv hg (HS.out q) (Nat.le_trans hbw (HBE.out q).size) h1 h2 h3 hn
  have hr0 : (0 : Int) ≤ (r : Int) := Int.natCast_nonneg _
  have hn0 : (s.t.length : Int) ≤ 1000000 := by omega
  have hws0 : (0 : Int) ≤ (ws.length : Int) := Int.natCast_nonneg _
  have hws1 : (ws.length : Int) ≤ 9223372036854775807 := by omega
  have HRB := Lib.hid (hR.inv.bd)
  clear hS hu hu3 hR hl hm hbw
  go_enter Tryz.func87, Tryz.ntmps87
  go_wp2_with fail
  go_loopw [6, 9] (fun f i wr => ∃ k z : Nat, i = .int .i64 k ∧ k ≤ ws.length ∧ f = .int .i64 (z : Int) ∧ z < s.t.length ∧ Hid ((z : Int) = leadTo s.t r ws k) ∧ Hid (∀ j, j < k → 0 ≤ leadTo s.t r ws (j + 1)) ∧ ∃ q, wr = w.drewN q) (fun _ i _ => ws.length - (intOf i).toNat)
  case atStart => exact ⟨0, r, rfl, by omega, rfl, hr, Lib.hid rfl, Lib.hid fun j hj => absurd hj (by omega), 0, rfl⟩
  case round =>
    obtain ⟨k, z, rfl, hk, rfl, hz, HZ, HJ, q, rfl⟩ := hrel
    have hk0 : (0 : Int) ≤ (k : Int) := Int.natCast_nonneg _
    have hz0 : (0 : Int) ≤ (z : Int) := Int.natCast_nonneg _
    have hzI : (z : Int) < (s.t.length : Int) := by omega
    by_cases hlt : k < ws.length
    · have hlt' : (k : Int) < (ws.length : Int) := by omega
      obtain ⟨bw, ow, rfl, hcc⟩ := HU.out (by omega)
      have hcc0 := Lib.hid hcc
      have hck := hcc k hlt
      have hx := HL.out.getD hlt
      have hcx := HL.out.col hlt
      obtain ⟨gr, cr, br, kr, a1, a2, a3⟩ := HAT.out z (col (ws.getD k 0)) hz hcx
      have HNX : Hid (leadTo s.t r ws (k + 1) = s.t.at z (col (ws.getD k 0))) := Lib.hid (by
        rw [leadTo_succ, ← HZ.out, if_neg (by omega), Int.toNat_natCast])
      have hbd := HRB.out z hz _ hcx
      have HC1 : Hid (∀ n, Calls Tryz.prog 59 #[.int .i64 (ws.getD k 0)] (w.drewN n) fun e w' => e = .returned (.int .i64 (col (ws.getD k 0) : Nat)) ∧ w.drewN n = w') := Lib.hid fun n => HCO.out _ n hx
      have hc0 : (0 : Int) ≤ ((col (ws.getD k 0) : Nat) : Int) := Int.natCast_nonneg _
      have hc1 : ((col (ws.getD k 0) : Nat) : Int) < (m : Int) := by have := HM.out; omega
      clear hcc hx
      by_cases hy : s.t.at z (col (ws.getD k 0)) < 0
      · have HK : Hid (leadTo s.t r ws (k + 1) < 0) := Lib.hid (by rw [HNX.out]; exact hy)
        have HF : Hid (fwd s.t r ws = k) := Lib.hid (fwd_eq (by omega) (.inr HK.out) HJ.out)
        have d1 : ((k : Int) == (ws.length : Int)) = false := by rw [beq_eq_false_iff_ne]; omega
        have HX0 := Lib.hid hcx
        obtain ⟨hy1, hy2⟩ := hbd
        generalize s.t.at z (col (ws.getD k 0)) = y at *
        generalize hce : col (ws.getD k 0) = cx at *
        have HCE := Lib.hid hce
        clear hce
        generalize hxe : ws.getD k 0 = x at *
        have HXQ := Lib.hid hxe
        clear hxe
        go_wp2_with fail
        go_quiet ((go_at_call 59; exact quiet_add_left (HC1.out _)))
        go_wp2_with fail
        go_loopw [10, 11] (fun bb jj wr => ∃ (p v : Nat) (J : Int), p ≤ ws.length ∧ jj = .int .i64 J ∧ J = (ws.length : Int) - 1 - p ∧ bb = .int .i64 (v : Int) ∧ v < s.t.length ∧ Hid ((v : Int) = leadTo s.t r (Ct.inv ws) p) ∧ Hid (∀ j, j < p → k + j < ws.length ∧ 0 ≤ leadTo s.t r (Ct.inv ws) (j + 1)) ∧ ∃ q, wr = w.drewN q) (fun _ j _ => (intOf j + 1).toNat)
        case atStart => exact ⟨0, r, _, by omega, rfl, by omega, rfl, hr, Lib.hid rfl, Lib.hid fun j hj => absurd hj (by omega), (by first | exact ⟨_, rfl⟩ | exact ex_drewN)⟩
        case round =>
          obtain ⟨p, v, J, hp, rfl, hJ, rfl, hv, HV, HP, q2, rfl⟩ := hrel
          have hv0 : (0 : Int) ≤ (v : Int) := Int.natCast_nonneg _
          have hvI : (v : Int) < (s.t.length : Int) := by omega
          have hzne : ¬ fwd s.t r ws = ws.length := by rw [HF.out]; omega
          by_cases hkp : k + p < ws.length
          · obtain ⟨jn, rfl⟩ : ∃ jn : Nat, J = (jn : Int) := ⟨ws.length - 1 - p, by omega⟩
            have hjn : jn = ws.length - 1 - p := by omega
            have hjl : jn < ws.length := by omega
            have hj0 : (0 : Int) ≤ (jn : Int) := Int.natCast_nonneg _
            have hj1 : (jn : Int) < (ws.length : Int) := by omega
            have hj2 : (k : Int) ≤ (jn : Int) := by omega
            have d3 : decide ((k : Int) ≤ (jn : Int)) = true := decide_eq_true hj2
            have hcj := hcc0.out jn hjl
            have hx2 := HL.out.getD hjl
            have hx2n : -(g : Int) ≤ -(ws.getD jn 0) ∧ -(ws.getD jn 0) ≤ g ∧ -(ws.getD jn 0) ≠ 0 := by omega
            have hcx2 : col (-(ws.getD jn 0)) < 2 * g := by
              rw [col_inv hx2.2.2]
              exact flp_lt2 (HL.out.col hjl)
            obtain ⟨gr2, cr2, br2, kr2, b1, b2, b3⟩ := HAT.out v (col (-(ws.getD jn 0))) hv hcx2
            rw [a1] at b1
            injection b1 with b1
            injection b1 with b1 e2 e3
            injection b1 with b1
            injection b1 with b1
            subst b1
            clear e2 e3
            have HNX2 : Hid (leadTo s.t r (Ct.inv ws) (p + 1) = s.t.at v (col (-(ws.getD jn 0)))) := Lib.hid (by
              rw [leadTo_succ, ← HV.out, if_neg (by omega), Int.toNat_natCast, inv_getD (by omega), ← hjn])
            have hbd2 := HRB.out v hv _ hcx2
            have HC2 : Hid (∀ n, Calls Tryz.prog 59 #[.int .i64 (-(ws.getD jn 0))] (w.drewN n) fun e w' => e = .returned (.int .i64 (col (-(ws.getD jn 0)) : Nat)) ∧ w.drewN n = w') := Lib.hid fun n => HCO.out _ n hx2n
            have hd0 : (0 : Int) ≤ ((col (-(ws.getD jn 0)) : Nat) : Int) := Int.natCast_nonneg _
            have hd1 : ((col (-(ws.getD jn 0)) : Nat) : Int) < (m : Int) := by have := HM.out; omega
            clear hx2n hcx2
            generalize col (-(ws.getD jn 0)) = cx2 at *
            generalize ws.getD jn 0 = x2 at *
            obtain ⟨hx3, hx4, -⟩ := hx2
            have hx5 : -16 ≤ x2 := by omega
            have hx6 : x2 ≤ 16 := by omega
            obtain ⟨hy3, hy4⟩ := hbd2
            by_cases hyy : s.t.at v cx2 < 0
            · have HB : Hid (bwd s.t r ws k = p) := Lib.hid (bwd_eq hp (.inr (by rw [HNX2.out]; exact hyy)) HP.out)
              have hwr : IntKind.i64.wrap (-x2) = -x2 := IntWalk.i64_in _ (by omega)
              have HBV := Lib.hid HV.out
              have hzz : (leadTo s.t r ws k).toNat = z := by rw [← HZ.out]; rfl
              have hvv : (leadTo s.t r (Ct.inv ws) p).toNat = v := by rw [← HV.out]; rfl
              have hnle : ¬ ws.length ≤ k + p := by omega
              by_cases hjk : jn = k
              · have HSC : Hid (scanS m s r ws = (joinS s z cx v, none)) := Lib.hid (by
                  unfold scanS
                  rw [if_neg hzne, HF.out, HB.out, if_neg hnle, if_pos (by omega), hzz, hvv, HXQ.out, HCE.out])
                have d4 : ((jn : Int) == (k : Int)) = true := by rw [hjk]; simp
                have d5 : decide ((jn : Int) < (k : Int)) = false := by simp; omega
                have HJ2 := Lib.hid fun q => HJO.out q z cx v hz hv HX0.out
                clear hzne hzz hvv hnle hjn hJ hjk
                go_wp2_with fail
                go_quiet ((go_at_call 59; exact quiet_add_left (HC2.out _)))
                go_wp2_with (first
                  | (go_at_call 59; (with_reducible refine (HC1.out _).mono ?_); rintro E w1 ⟨rfl, rfl⟩)
                  | (go_at_call 89; (with_reducible refine (HJ2.out _).mono ?_); rintro E w1 ⟨rfl, hs1, hb1⟩
                     have HS1 := Lib.hid hs1
                     have HB1 := Lib.hid hb1
                     clear hs1 hb1))
                try simp only [Exit.inBlock, Exit.then]
                refine bodyPost_ret (results_tmp3 rfl _ _ _) rfl ?_
                exact ⟨by rw [HSC.out]; rfl, by rw [HSC.out]; exact HS1.out, (HBE.out _).trans HB1.out⟩
              · have HSC : Hid (scanS m s r ws = (s, some (z, cx))) := Lib.hid (by
                  unfold scanS
                  rw [if_neg hzne, HF.out, HB.out, if_neg hnle, if_neg (by omega), hzz, HXQ.out, HCE.out])
                have d4 : ((jn : Int) == (k : Int)) = false := by rw [beq_eq_false_iff_ne]; omega
                have d5 : decide ((jn : Int) < (k : Int)) = false := by simp; omega
                clear hzne hzz hvv hnle hjn hJ hjk
                go_wp2_with fail
                go_quiet ((go_at_call 59; exact quiet_add_left (HC2.out _)))
                go_wp2_with (first
                  | (go_at_call 59; (with_reducible refine (HC1.out _).mono ?_); rintro E w1 ⟨rfl, rfl⟩))
                try simp only [Exit.inBlock, Exit.then]
                refine bodyPost_ret (results_tmp3 rfl _ _ _) rfl ?_
                exact ⟨by rw [HSC.out]; rfl, by rw [HSC.out]; exact HS.out _, HBE.out _⟩
            · obtain ⟨v', hv'⟩ : ∃ v' : Nat, s.t.at v cx2 = v' := ⟨(s.t.at v cx2).toNat, by omega⟩
              rw [hv'] at b3 HNX2 hy4
              have HJN : Hid ((jn : Int) = (ws.length : Int) - 1 - p) := Lib.hid (by omega)
              clear hyy hv' hjn hJ
              have hv1 : (0 : Int) ≤ (v' : Int) := Int.natCast_nonneg _
              have hwr : IntKind.i64.wrap (-x2) = -x2 := IntWalk.i64_in _ (by omega)
              go_wp2_with fail
              go_quiet ((go_at_call 59; exact quiet_add_left (HC2.out _)))
              go_wp2_with fail
              go_quiet ((go_at_call 59; exact quiet_add_left (HC2.out _)))
              go_wp2_with fail
              go_roundw
              case rel => exact ⟨p + 1, v', _, by omega, rfl, by have := HJN.out; omega, rfl, by omega, Lib.hid HNX2.out.symm, Lib.hid (all_succ HP.out ⟨hkp, by rw [HNX2.out]; omega⟩), (by first | exact ⟨_, rfl⟩ | exact ex_drewN)⟩
              case measure => simp [intOf]
          · have HB : Hid (bwd s.t r ws k = p) := Lib.hid (bwd_eq hp (.inl (by omega)) HP.out)
            have hzz : (leadTo s.t r ws k).toNat = z := by rw [← HZ.out]; rfl
            have hvv : (leadTo s.t r (Ct.inv ws) p).toNat = v := by rw [← HV.out]; rfl
            have HSC : Hid (scanS m s r ws = (coinS m s z v, none)) := Lib.hid (by
              unfold scanS
              rw [if_neg hzne, HF.out, HB.out, if_pos (by omega), hzz, hvv])
            have hJk : J < (k : Int) := by omega
            have d3 : decide ((k : Int) ≤ J) = false := by simp; omega
            have d5 : decide (J < (k : Int)) = true := by simp; omega
            have HC3 := Lib.hid fun q => HCN.out q z v hz hv
            clear hzne hzz hvv hkp hJ
            go_wp2_with fail
            go_quiet (fail)
            go_wp2_with (first
              | (go_at_call 100; (with_reducible refine (HC3.out _).mono ?_); rintro E w1 ⟨rfl, hs1, hb1⟩
                 have HS1 := Lib.hid hs1
                 have HB1 := Lib.hid hb1
                 clear hs1 hb1))
            try simp only [Exit.inBlock, Exit.then]
            refine bodyPost_ret (results_tmp3 rfl _ _ _) rfl ?_
            exact ⟨by rw [HSC.out]; rfl, by rw [HSC.out]; exact HS1.out, (HBE.out _).trans HB1.out⟩
      · obtain ⟨z', hz'⟩ : ∃ z' : Nat, s.t.at z (col (ws.getD k 0)) = z' := ⟨(s.t.at z (col (ws.getD k 0))).toNat, by omega⟩
        rw [hz'] at a3 hbd HNX
        clear hy hz'
        generalize col (ws.getD k 0) = cx at *
        generalize ws.getD k 0 = x at *
        obtain ⟨hy1, hy2⟩ := hbd
        have hz1 : (0 : Int) ≤ (z' : Int) := Int.natCast_nonneg _
        go_wp2_with fail
        go_quiet ((go_at_call 59; exact quiet_add_left (HC1.out _)))
        go_wp2_with fail
        go_quiet ((go_at_call 59; exact quiet_add_left (HC1.out _)))
        go_wp2_with fail
        go_roundw
        case rel => exact ⟨k + 1, z', by go_num, by omega, rfl, by omega, Lib.hid HNX.out.symm, all_succ HJ.out (by rw [HNX.out]; omega), (by first | exact ⟨_, rfl⟩ | exact ex_drewN)⟩
        case measure => simp [intOf]; omega
    · obtain rfl : k = ws.length := by omega
      have HF : Hid (fwd s.t r ws = ws.length) := Lib.hid (fwd_eq (Nat.le_refl _) (.inl rfl) HJ.out)
      by_cases hzr : z = r
      · have HSC : Hid (scanS m s r ws = (s, none)) := Lib.hid (by unfold scanS; rw [if_pos HF.out, HF.out, ← HZ.out, if_pos (by rw [hzr])])
        have d1 : ((z : Int) != (r : Int)) = false := by rw [hzr]; simp
        have d2 : ((ws.length : Int) == (ws.length : Int)) = true := by simp
        clear hlt
        go_wp2_with fail
        go_quiet (fail)
        go_wp2_with fail
        try simp only [Exit.inBlock, Exit.then]
        refine bodyPost_ret (results_tmp3 rfl _ _ _) rfl ?_
        exact ⟨by rw [HSC.out]; rfl, by rw [HSC.out]; exact HS.out _, HBE.out _⟩
      · have HSC : Hid (scanS m s r ws = (coinS m s z r, none)) := Lib.hid (by unfold scanS; rw [if_pos HF.out, HF.out, ← HZ.out, if_neg (by omega), Int.toNat_natCast])
        have d1 : ((z : Int) != (r : Int)) = true := by simp; omega
        have d2 : ((ws.length : Int) == (ws.length : Int)) = true := by simp
        clear hlt
        have HC2 := Lib.hid fun q => HCN.out q z r hz hr
        go_wp2_with fail
        go_quiet (fail)
        go_wp2_with (first
          | (go_at_call 100; (with_reducible refine (HC2.out _).mono ?_); rintro E w1 ⟨rfl, hs1, hb1⟩
             have HS1 := Lib.hid hs1
             have HB1 := Lib.hid hb1
             clear hs1 hb1))
        try simp only [Exit.inBlock, Exit.then]
        refine bodyPost_ret (results_tmp3 rfl _ _ _) rfl ?_
        exact ⟨by rw [HSC.out]; rfl, by rw [HSC.out]; exact HS1.out, (HBE.out _).trans HB1.out⟩
end Go.Proofs
