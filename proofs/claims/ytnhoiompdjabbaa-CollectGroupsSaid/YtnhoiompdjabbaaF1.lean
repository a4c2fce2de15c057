/- The reference's methods: proper, inverse; The reference's methods: period, Mul, Inv, Pow, Period. -/
import Derived.Test.YtnhoiompdjabbaaC1
import Derived.Test.YtnhoiompdjabbaaA14
import Derived.Test.YtnhoiompdjabbaaB3
namespace Go.Proofs
open Go.RowKit Go.Proofs.Pc

/-- the boxes of a reference group -/
theorem RGrpAt.open_ {w : World} {bh : Nat} {P : PcD} (h : RGrpAt w bh P) : ∃ A0 c0 A1 c1 A2 c2, w.heap[bh]? = some (.cells #[.slice A0 P.orders.length c0, .slice A1 P.powers.length c1, .slice A2 P.conj.length c2] 80 (0, 0)) ∧ PcAt w (.slice A0 P.orders.length c0) (.slice A1 P.powers.length c1) (.slice A2 P.conj.length c2) P ∧ P.orders.length ≤ c0 ∧ c0 ≤ 9223372036854775807 := by
  obtain ⟨u0, u1, u2, hh, hP⟩ := h
  obtain ⟨A0, c0, rfl, h1, h2, -⟩ := hP.1.open_
  obtain ⟨-, ⟨A1, c1, rfl⟩, A2, c2, rfl⟩ := pc_slices hP
  exact ⟨A0, c0, A1, c1, A2, c2, hh, hP, h1, h2⟩

theorem row80 {w : World} {b : Nat} {v0 v1 v2 : Value} {t : TypeId} (h : w.heap[b]? = some (.cells #[v0, v1, v2] t (0, 0))) : w.cell? ⟨b, 0, none⟩ = some v0 ∧ w.cell? ⟨b, 1, none⟩ = some v1 ∧ w.cell? ⟨b, 2, none⟩ = some v2 :=
  ⟨by rw [cell_of_row _ _ _ _ _ _ h]; rfl, by rw [cell_of_row _ _ _ _ _ _ h]; rfl, by rw [cell_of_row _ _ _ _ _ _ h]; rfl⟩
/-- what stands of a reference group behind a step -/
theorem row80_below {w w' : World} {b : Nat} {v0 v1 v2 : Value} {t : TypeId} (h : w.heap[b]? = some (.cells #[v0, v1, v2] t (0, 0))) (hb : Below w.heap.size w w') : w'.heap[b]? = some (.cells #[v0, v1, v2] t (0, 0)) := (hb.block _ (Array.getElem?_eq_some_iff.1 h).1).trans h

set_option maxRecDepth 100000 in
set_option maxHeartbeats 400000 in
theorem proper_any {P : PcD} (w : World) (bh : Nat) (hg : RGrpAt w bh P) (sv : Value) (xs : List Int) (hs : IntsAt w sv xs) :
    Calls Try.prog 72 #[.pointer (some ⟨bh, 0, none⟩), sv] w fun e w' => e = .returned (.int .i64 (takeErr P xs)) ∧ Below w.heap.size w w' := by
  obtain ⟨A0, c0, A1, c1, A2, c2, hh, hP, hc0, hc1⟩ := hg.open_
  obtain ⟨k0, k1, k2⟩ := row80 hh
  have HS := Lib.hid hs
  have HP := Lib.hid hP
  have HH := Lib.hid hh
  obtain ⟨A, ca, rfl, hx1, hx2, -⟩ := hs.open_
  clear hg hs hP hh
  by_cases hl : xs.length = P.orders.length
  · have d1 : ((xs.length : Int) != (P.orders.length : Int)) = false := by rw [hl]; simp
    have HN := Lib.hid (normalRef_any w _ (.slice A1 P.powers.length c1) (.slice A2 P.conj.length c2) _ P.orders xs 0 HP.out.1 HS.out (by omega))
    have HL := Lib.hid hl
    clear hl
    by_cases hn : normalB P.orders xs 0 = true
    · have he : takeErr P xs = 0 := by unfold takeErr; rw [if_pos (show xs.length = P.n from HL.out), if_pos hn]
      rw [hn] at HN
      rw [he]
      clear hn he
      go_enter Try.func72, Try.ntmps72
      go_wp2_with fail
      refine HN.out.mono ?_
      rintro e w1 ⟨rfl, hb⟩
      have HB := Lib.hid hb
      clear hb
      go_wp2_with fail
      go_ret
      exact ⟨rfl, HB.out⟩
    · have he : takeErr P xs = 2 := by unfold takeErr; rw [if_pos (show xs.length = P.n from HL.out), if_neg hn]
      rw [Bool.not_eq_true] at hn
      rw [hn] at HN
      rw [he]
      clear hn he
      go_enter Try.func72, Try.ntmps72
      go_wp2_with fail
      refine HN.out.mono ?_
      rintro e w1 ⟨rfl, hb⟩
      have HB := Lib.hid hb
      clear hb
      go_wp2_with fail
      go_ret
      exact ⟨rfl, HB.out⟩
  · have d1 : ((xs.length : Int) != (P.orders.length : Int)) = true := by simp; omega
    have he : takeErr P xs = 3 := by unfold takeErr; rw [if_neg (show ¬ xs.length = P.n from hl)]
    rw [he]
    go_enter Try.func72, Try.ntmps72
    go_wp2_with fail
    go_ret
    exact ⟨rfl, Below.refl _ _⟩

set_option maxRecDepth 100000 in
set_option maxHeartbeats 1000000 in
/-- inverse of a normal list -/
theorem invRef_any {P : PcD} (hv : Valid P) (w : World) (bh : Nat) (hg : RGrpAt w bh P) (sv : Value) (x : List Int) (hs : IntsAt w sv x) (hx : NV P x) :
    Calls Try.prog 74 #[.pointer (some ⟨bh, 0, none⟩), sv] w fun e w' => (∃ u, e = .returned u ∧ IntsAt w' u (invP P x)) ∧ Below w.heap.size w w' := by
  have h12 := hv.n12
  obtain ⟨A, ca, rfl, hx1, hx2, -⟩ := hs.open_
  have hxl := hx.1
  have hal : Below w.heap.size w (w.alloc (.cells #[] 3)) := (Below.refl _ _).alloc (Nat.le_refl _) _
  obtain ⟨b', cap', w2, hr, hb2, hy2, hc2, hm2, hbb⟩ := run_copy (heap_alloc_new w (.cells #[] 3)) (hs.below hal) (by rw [hxl]; omega)
  have hB2 : Below w.heap.size w w2 := hal.trans (hb2.mono hal.size)
  have hbn : w.heap.size ≤ b' := by
    rcases hbb with h | h
    · rw [h]; exact Nat.le_refl _
    · rw [h]; exact hal.size
  rw [hxl] at hr hc2
  have HPB := Lib.hid hg
  obtain ⟨A0, c0, A1, c1, A2, c2, hh, hP, hc0, hc1⟩ := hg.open_
  have hmk := make22 w2 P.n (by omega)
  have HR := Lib.hid hr
  have HP := Lib.hid hP.pcB
  have HH := Lib.hid hh
  have hbh : bh < w.heap.size := (Array.getElem?_eq_some_iff.1 hh).1
  have hb2s : b' < w2.heap.size := hy2.lt
  have hBW : Below w.heap.size w (w2.alloc (.cells (Array.replicate P.n (.int .i64 0)) 3)) := hB2.trans (((Below.refl _ _).alloc (Nat.le_refl _) _).mono hB2.size)
  have hYW : XsAt (w2.alloc (.cells (Array.replicate P.n (.int .i64 0)) 3)) w2.heap.size (zV P) := xsAt_zero w2 P.n
  have hXW : XsAt (w2.alloc (.cells (Array.replicate P.n (.int .i64 0)) 3)) b' x := hy2.below ((Below.refl _ _).alloc (Nat.le_refl _) _)
  have hws : w.heap.size ≤ w2.heap.size := hB2.size
  have HBW := Lib.hid hBW
  have HYW := Lib.hid hYW
  have HXW := Lib.hid hXW
  have HX := Lib.hid hx
  rw [hxl]
  clear hr hg hs hb2 hy2 hB2 hal hbb hx hh hP hBW hYW hXW hxl
  go_enter Try.func74, Try.ntmps74
  go_wp2_with ((with_reducible refine wpList_sel 10 ?_); refine wpList_val rfl (r_app (.tmp 8) (.tmp 9) 22 rfl rfl rfl HR.out) ?_)
  generalize hby : w2.heap.size = yb at *
  generalize w2.alloc (.cells (Array.replicate P.n (.int .i64 0)) 3) = W at *
  clear hmk hby
  have hk0 : W.cell? ⟨bh, 0, none⟩ = some (.slice A0 P.orders.length c0) := (row80 (row80_below HH.out HBW.out)).1
  clear hk0
  go_loopw [7] (fun s wr => ∃ k : Nat, k ≤ P.n ∧ s = .int .i64 k ∧ XsAt wr b' (invTo P x k).1 ∧ XsAt wr yb (invTo P x k).2 ∧ Below w.heap.size w wr) (fun s _ => P.n - (intOf s).toNat)
  case atStart => exact ⟨0, Nat.zero_le _, rfl, HXW.out, HYW.out, HBW.out⟩
  case round =>
    obtain ⟨k, hk, rfl, hC, hY, hB⟩ := hrel
    have HC := Lib.hid hC
    have HY := Lib.hid hY
    have HB := Lib.hid hB
    clear hC hY hB
    by_cases hlt : k < P.n
    · obtain ⟨n1, n2, -, n4, -⟩ := invTo_inv hv HX.out k hk
      have hcl := cnt_lt hv hlt n1
      have ho2 := hv.ord2 k hlt
      have HN1 := Lib.hid n1
      have HN2 := Lib.hid n2
      have HN4 := Lib.hid n4
      have HS := Lib.hid (invTo_succ (P := P) x k)
      generalize (invTo P x k).1 = v at *
      generalize (invTo P x k).2 = y at *
      have hk0 : (0 : Int) ≤ (k : Int) := Int.natCast_nonneg _
      have hk12 : (k : Int) < (P.n : Int) := by omega
      generalize hcn : cnt P k v = cn at *
      have HCN := Lib.hid hcn
      have hy0 : XsAt wr yb (y.set k ((0 : Nat) : Int)) := HY.out.congr (by simp) fun j _ => by
        rw [getD_set]
        split
        · rename_i e; rw [← e.1, HN4.out k (Nat.le_refl _)]; rfl
        · rfl
      have HY0 := Lib.hid hy0
      clear hy0 n1 n2 n4 hcn
      go_wp2_with fail
      obtain ⟨wo, rfl⟩ : ∃ wo, wo = wr := ⟨_, rfl⟩
      go_loopw [] (fun wr => ∃ q : Nat, q ≤ cn ∧ XsAt wr b' (iter (T P k) q v) ∧ XsAt wr yb (y.set k (q : Int)) ∧ Below w.heap.size w wr) (fun wr => cn - numAt wr yb k)
      case atStart => exact ⟨0, Nat.zero_le _, HC.out, HY0.out, HB.out⟩
      case round =>
        obtain ⟨q, hq, hC, hY, hB⟩ := hrel
        have hlen : k < (y.set k (q : Int)).length := by rw [List.length_set, HN2.out.1]; exact hlt
        have hyk : (y.set k (q : Int)).getD k 0 = (q : Int) := by rw [getD_set, if_pos ⟨rfl, by rw [HN2.out.1]; exact hlt⟩]
        have hcy := hY.cell hlen
        rw [hyk] at hcy
        have hnq := numAt_of hcy
        have hnv := iter_NV hv hlt HN1.out q
        have hcell := hC.cell (k := k) (by rw [hnv.1]; exact hlt)
        have hqk := hnv.2 k hlt
        have hpos := fun h : q < cn => cnt_pos hv hlt HN1.out (q := q) (by rw [HCN.out]; exact h)
        have hend : Hid (q = cn → (iter (T P k) q v).getD k 0 = 0) := Lib.hid (fun h => by rw [h, ← HCN.out]; exact cnt_at hv hlt HN1.out)
        have HC := Lib.hid hC
        have HY := Lib.hid hY
        have HB := Lib.hid hB
        have HNV := Lib.hid hnv
        have HTS : Hid (iter (T P k) (q + 1) v = timesF P P.n k (iter (T P k) q v)) := Lib.hid rfl
        have HNQ := Lib.hid hnq
        obtain ⟨e0, e1, e2⟩ := row80 (row80_below HH.out hB)
        have hbs := hB.size
        generalize hz : iter (T P k) q v = z at *
        have HZ := Lib.hid hz
        clear hz
        by_cases hql : q < cn
        · have hz0 := hpos hql
          generalize hm : z.getD k 0 = m at *
          have hm0 : (m != 0) = true := by simp; omega
          have HT := Lib.hid (rtimes_ok hv P.n wr w.heap.size b' cap' _ _ _ z k (HP.out.below HB.out (Nat.le_refl _)) hbn HC.out hc2 hm2 HNV.out hlt (by omega))
          clear hpos hm hend hlen hC hY hB hnv hnq
          go_wp2_with fail
          refine HT.out.mono ?_
          rintro e w5 ⟨rfl, hc5, hg5⟩
          have hyc := HY.out.grown hg5 (by simp; omega)
          have hlen : k < (y.set k (q : Int)).length := by rw [List.length_set, HN2.out.1]; exact hlt
          have hcy5 := hyc.cell hlen
          rw [hyk] at hcy5
          have hfy5 := hyc.frozen k
          have hY6 := hyc.set hlen ((q : Int) + 1)
          rw [List.set_set] at hY6
          have hyk6 : (y.set k ((q : Int) + 1)).getD k 0 = ((q + 1 : Nat) : Int) := by rw [getD_set, if_pos ⟨rfl, by rw [HN2.out.1]; exact hlt⟩]; push_cast; rfl
          have hn6 := numAt_of (by have := hY6.cell (k := k) (by rw [List.length_set, HN2.out.1]; exact hlt); rw [hyk6] at this; exact this)
          have HC6 := Lib.hid (show XsAt (w5.setCell ⟨yb, k, none⟩ (.int .i64 ((q : Int) + 1))) b' (timesF P P.n k z) from hc5.keep (Below.heap_setCell _ ⟨yb, k, none⟩ _ _ (by simp; omega)))
          have HB6 := Lib.hid ((HB.out.grown hg5 HB.out.size (fun k e => by cases e; omega)).setCell (p := ⟨yb, k, none⟩) (by simp; omega) (.int .i64 ((q : Int) + 1)))
          have HY6 := Lib.hid hY6
          have HN6 := Lib.hid hn6
          clear hyc hc5 hg5 hY6 hn6 hyk6 hcy
          go_wp2_with fail
          go_roundw
          case rel => exact ⟨q + 1, by omega, by rw [HTS.out]; exact HC6.out, by push_cast; exact HY6.out, HB6.out⟩
          case measure => rw [HN6.out, HNQ.out]; omega
        · obtain rfl : q = cn := by omega
          rw [hend.out rfl] at hcell
          have HC9 := Lib.hid (show XsAt wr b' (invTo P x (k + 1)).1 by rw [HS.out]; show XsAt _ _ (iter (T P k) q v); rw [HZ.out]; exact HC.out)
          have HY9 := Lib.hid (show XsAt wr yb (invTo P x (k + 1)).2 by rw [HS.out]; exact HY.out)
          clear hpos hyk hlen hC hY hB hnv hnq hend
          go_wp2_with fail
          go_roundw
          case rel => exact ⟨k + 1, by omega, by go_num, HC9.out, HY9.out, HB.out⟩
          case measure => simp [intOf]; omega
    · obtain rfl : k = P.n := by omega
      have hni := invP_NV hv HX.out
      have HR9 := Lib.hid (HY.out.ints hni.1 (Nat.le_refl _) (by omega) (Pc.NV.fits hv hni))
      clear hni
      go_wp2_with fail
      go_ret
      exact ⟨⟨_, rfl, HR9.out⟩, HB.out⟩
end Go.Proofs
namespace Go.Proofs
open Go.RowKit Go.Proofs.Pc

set_option maxRecDepth 100000 in
set_option maxHeartbeats 1000000 in
/-- the order of a normal list -/
theorem perRef_any {P : PcD} (hv : Valid P) (hc : consB P = true) (hp : prod P P.n ≤ 50000) (w : World) (bh : Nat) (hg : RGrpAt w bh P) (sv : Value) (x : List Int) (hs : IntsAt w sv x) (hx : NV P x) :
    Calls Try.prog 77 #[.pointer (some ⟨bh, 0, none⟩), sv] w (PerPost P x w) := by
  obtain ⟨N, hN, hN2⟩ := per_exists hv hc hx
  have hN1 := hN.pos
  have hN3 : (N : Int) ≤ 50000 := by omega
  have h12 := hv.n12
  obtain ⟨A, ca, rfl, hx1, hx2, -⟩ := hs.open_
  have hxl := hx.1
  have hmk := make22 w P.n (by omega)
  have hal1 : Below w.heap.size w (w.alloc (.cells (Array.replicate P.n (.int .i64 0)) 3)) := (Below.refl _ _).alloc (Nat.le_refl _) _
  have hal : Below w.heap.size w ((w.alloc (.cells (Array.replicate P.n (.int .i64 0)) 3)).alloc (.cells #[] 3)) := hal1.alloc hal1.size _
  obtain ⟨b', cap', w2, hr, hb2, hy2, hc2, hm2, hbb⟩ := run_copy (heap_alloc_new (w.alloc (.cells (Array.replicate P.n (.int .i64 0)) 3)) (.cells #[] 3)) (hs.below hal) (by rw [hxl]; omega)
  have hB2 : Below w.heap.size w w2 := hal.trans (hb2.mono hal.size)
  rw [World.size_alloc] at hr hbb
  have hbn : w.heap.size < b' := by
    rcases hbb with h | h
    · rw [h]; exact Nat.lt_succ_self _
    · rw [h]; have := hal.size; simp only [World.size_alloc] at this ⊢; omega
  have hOW : XsAt w2 w.heap.size (zV P) := ((xsAt_zero w P.n).below ((Below.refl _ _).alloc (Nat.le_refl _) (.cells #[] 3))).below hb2
  rw [hxl] at hr hc2
  obtain ⟨A0, c0, A1, c1, A2, c2, hh, hP, hc0, hc1⟩ := hg.open_
  have HR := Lib.hid hr
  have HP := Lib.hid hP.pcB
  have HH := Lib.hid hh
  have hbh : bh < w.heap.size := (Array.getElem?_eq_some_iff.1 hh).1
  have HB2 := Lib.hid hB2
  have HXW := Lib.hid hy2
  have HOW := Lib.hid hOW
  have HX := Lib.hid hx
  have HN := Lib.hid hN
  have HS := Lib.hid hs
  rw [hxl] at *
  clear hr hg hs hb2 hy2 hB2 hal hal1 hbb hx hh hP hOW hxl hN hN2
  go_enter Try.func77, Try.ntmps77
  go_wp2_with ((with_reducible refine wpList_sel 13 ?_); refine wpList_val rfl (r_app (.tmp 11) (.tmp 12) 22 rfl rfl rfl HR.out) ?_)
  go_loopw [7] (fun s wr => ∃ j : Nat, 1 ≤ j ∧ j ≤ N ∧ s = .int .i64 j ∧ XsAt wr b' (npow P x j) ∧ XsAt wr w.heap.size (zV P) ∧ Below w.heap.size w wr) (fun s _ => N - (intOf s).toNat)
  case atStart => exact ⟨1, Nat.le_refl _, by omega, by go_num, by rw [npow_one hv HX.out]; exact HXW.out, HOW.out, HB2.out⟩
  case round =>
    obtain ⟨j, hj1, hj2, rfl, hY, hO, hB⟩ := hrel
    have hny := npow_NV hv (x := x) j
    have hz := NV_z hv
    have HNY := Lib.hid hny
    have HY := Lib.hid hY
    have HO := Lib.hid hO
    have HB := Lib.hid hB
    have HST := Lib.hid (npow_succ (P := P) x j)
    have hle : (npow P x j).length = (zV P).length := by rw [hny.1, hz.1]
    have HE := Lib.hid (equalRef_any wr _ _ _ _ (hY.ints hny.1 hc2 hm2 (Pc.NV.fits hv hny)) (hO.ints hz.1 (Nat.le_refl _) (by omega) (Pc.NV.fits hv hz)) hle)
    have hws : wr.heap.size ≥ w.heap.size := hB.size
    clear hny hz hY hO hB hle
    by_cases h0 : npow P x j = zV P
    · have hjN : j = N := by
        rcases Nat.lt_or_ge j N with h | h
        · exact absurd h0 (HN.out.least j hj1 h)
        · omega
      subst hjN
      rw [decide_eq_true h0] at HE
      clear h0
      go_wp2_with fail
      refine HE.out.mono ?_
      rintro e w5 ⟨rfl, q, rfl⟩
      go_wp2_with fail
      go_ret
      exact ⟨⟨j, HN.out, hN3, rfl⟩, below_drewN HB.out q⟩
    · have hjN : j < N := by
        rcases Nat.lt_or_ge j N with h | h
        · exact h
        · obtain rfl : j = N := by omega
          exact absurd HN.out.one h0
      rw [decide_eq_false h0] at HE
      clear h0
      go_wp2_with fail
      refine HE.out.mono ?_
      rintro e w5 ⟨rfl, q, rfl⟩
      have hkd : Below wr.heap.size wr (wr.drewN q) := below_drewN (Below.refl _ _) q
      obtain ⟨e0, e1, e2⟩ := row80 (row80_below HH.out (below_drewN HB.out q))
      have HBY := Lib.hid (rby_ok hv P.n (wr.drewN q) w.heap.size b' cap' _ _ _ _ (npow P x j) x (HP.out.below (below_drewN HB.out q) (Nat.le_refl _)) (by omega) (HY.out.below hkd) hc2 hm2 HNY.out (HS.out.below (below_drewN HB.out q)) HX.out.1 (Pc.NV.small hv HX.out))
      have HBD := Lib.hid (below_drewN HB.out q)
      have HOD := Lib.hid (HO.out.below hkd)
      clear hkd
      go_wp2_with fail
      refine HBY.out.mono ?_
      rintro e w6 ⟨rfl, hc6, hg6⟩
      have HC6 := Lib.hid hc6
      have HO6 := Lib.hid (HOD.out.grown hg6 (by simp; omega))
      have HB6 := Lib.hid (HBD.out.grown hg6 HBD.out.size (fun k e => by cases e; omega))
      clear hc6 hg6
      go_wp2_with fail
      go_roundw
      case rel => exact ⟨j + 1, by omega, by omega, by go_num, HC6.out, HO6.out, HB6.out⟩
      case measure => simp [intOf]; omega

/-- a list or nil, and an error -/
def LRet (err : Int) (z : List Int) (w : World) (e : Ending) (w' : World) : Prop := (∃ u, e = .returned (.tuple #[u, .int .i64 err]) ∧ IntsAt w' u z) ∧ Below w.heap.size w w'
theorem ints_nil (w : World) : IntsAt w (.slice none 0 0) [] := ⟨⟨none, 0, 0, rfl, rfl, Nat.le_refl _, by simp [maxLen], fun h => absurd h (by simp)⟩, fun y hy => by simp at hy⟩
/-- a number or 0, and an error -/
def NRet (P : PcD) (err : Int) (x : List Int) (w : World) (e : Ending) (w' : World) : Prop := (∃ n : Nat, (err = 0 → IsPer P x n ∧ (n : Int) ≤ 50000) ∧ (err ≠ 0 → n = 0) ∧ e = .returned (.tuple #[.int .i64 n, .int .i64 err])) ∧ Below w.heap.size w w'

set_option maxRecDepth 100000 in
set_option maxHeartbeats 400000 in
theorem mulRef_any {P : PcD} (hv : Valid P) (w : World) (bh : Nat) (hg : RGrpAt w bh P) (s1 s2 : Value) (x y : List Int) (h1 : IntsAt w s1 x) (h2 : IntsAt w s2 y) :
    Calls Try.prog 30 #[.pointer (some ⟨bh, 0, none⟩), s1, s2] w (LRet (mulErr P x y) (if mulErr P x y = 0 then mulP P x y else []) w) := by
  obtain ⟨A, ca, rfl, -⟩ := h1.open_
  obtain ⟨B, cb, rfl, -⟩ := h2.open_
  have HG := Lib.hid hg
  have H1 := Lib.hid h1
  have H2 := Lib.hid h2
  have HP1 := Lib.hid (proper_any w bh hg _ x h1)
  clear hg h1 h2
  by_cases hx : takeErr P x = 0
  · have hm : mulErr P x y = takeErr P y := by unfold mulErr; rw [if_pos hx]
    rw [hm]
    have HX := Lib.hid (takeErr_NV hx)
    rw [hx] at HP1
    clear hx hm
    by_cases hy : takeErr P y = 0
    · have HY := Lib.hid (takeErr_NV hy)
      rw [if_pos hy, hy]
      have HT := Lib.hid hy
      clear hy
      go_enter Try.func30, Try.ntmps30
      go_wp2_with fail
      refine HP1.out.mono ?_
      rintro e w1 ⟨rfl, hb⟩
      have HP2 := Lib.hid (proper_any w1 bh (HG.out.below hb) _ y (H2.out.below hb))
      rw [HT.out] at HP2
      have HB := Lib.hid hb
      clear hb
      go_wp2_with fail
      refine HP2.out.mono ?_
      rintro e w2 ⟨rfl, hb⟩
      have hB := HB.out.trans (hb.mono HB.out.size)
      obtain ⟨A0, c0, A1, c1, A2, c2, hh, hP, hc0, hc1⟩ := (HG.out.below hB).open_
      obtain ⟨e0, e1, e2⟩ := row80 hh
      have HK := Lib.hid (product_any hv w2 _ _ _ _ _ x y hP (H1.out.below hB) (H2.out.below hB) HX.out HY.out)
      have HB := Lib.hid hB
      clear hb hB hh hP
      go_wp2_with fail
      refine HK.out.mono ?_
      rintro e w3 ⟨v, rfl, ho⟩
      obtain ⟨b, cap, rfl, hi, hb⟩ := xsOut_intro hv (mulP_NV hv HX.out) ho
      have HI := Lib.hid hi
      have HB := Lib.hid (HB.out.trans (hb.mono HB.out.size))
      clear ho hi hb
      go_wp2_with fail
      go_ret2
      exact ⟨⟨_, rfl, HI.out⟩, HB.out⟩
    · rw [if_neg hy]
      have d1 : (takeErr P y != 0) = true := by simp [hy]
      have HT := Lib.hid (proper_any (P := P) (xs := y))
      generalize takeErr P y = t at *
      clear hy
      go_enter Try.func30, Try.ntmps30
      go_wp2_with fail
      refine HP1.out.mono ?_
      rintro e w1 ⟨rfl, hb⟩
      have HP2 := Lib.hid (HT.out w1 bh (HG.out.below hb) _ (H2.out.below hb))
      have HB := Lib.hid hb
      clear hb
      go_wp2_with fail
      refine HP2.out.mono ?_
      rintro e w2 ⟨rfl, hb⟩
      have HB := Lib.hid (HB.out.trans (hb.mono HB.out.size))
      clear hb
      go_wp2_with fail
      go_ret2
      exact ⟨⟨_, rfl, ints_nil _⟩, HB.out⟩
  · have hm : mulErr P x y = takeErr P x := by unfold mulErr; rw [if_neg hx]
    rw [hm, if_neg hx]
    have d1 : (takeErr P x != 0) = true := by simp [hx]
    generalize takeErr P x = t at *
    clear hx hm
    go_enter Try.func30, Try.ntmps30
    go_wp2_with fail
    refine HP1.out.mono ?_
    rintro e w1 ⟨rfl, hb⟩
    have HB := Lib.hid hb
    clear hb
    go_wp2_with fail
    go_ret2
    exact ⟨⟨_, rfl, ints_nil _⟩, HB.out⟩
end Go.Proofs
