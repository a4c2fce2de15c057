/- The reference's By, given Times. -/
import Derived.Test.YtnhoiompdjabbaaR0
import Derived.Test.YtnhoiompdjabbaaNew
import Derived.Test.YtnhoiompdjabbaaKn
namespace Go.Proofs
open Go.RowKit Go.Proofs.Pc

def RTurned (w : World) (bx : Nat) (y : List Int) (e : Ending) (w' : World) : Prop := e = .returned (.tuple #[]) ∧ XsAt w' bx y ∧ w.grownBy w' (some bx)
def RTimesOk (P : PcD) (d : Nat) : Prop := ∀ (w : World) (n₀ bx cap : Nat) (v0 v1 v2 : Value) (x : List Int) (i : Nat), PcB n₀ w v0 v1 v2 P → n₀ ≤ bx → XsAt w bx x → P.n ≤ cap → cap ≤ 9223372036854775807 → NV P x → i < P.n → P.n ≤ i + d →
    Calls Try.prog 52 #[.agg #[v0, v1, v2], .slice (some ⟨bx, 0, none⟩) P.n cap, .int .i64 i] w (RTurned w bx (timesF P d i x))
def RByOk (P : PcD) (d : Nat) : Prop := ∀ (w : World) (n₀ bx cap : Nat) (v0 v1 v2 yv : Value) (x y : List Int), PcB n₀ w v0 v1 v2 P → n₀ ≤ bx → XsAt w bx x → P.n ≤ cap → cap ≤ 9223372036854775807 → NV P x → IntsAt w yv y → y.length = P.n →
    (∀ k, k < P.n → 0 ≤ y.getD k 0 ∧ y.getD k 0 ≤ 1000 ∧ (0 < y.getD k 0 → P.n ≤ k + d)) →
    Calls Try.prog 78 #[.agg #[v0, v1, v2], .slice (some ⟨bx, 0, none⟩) P.n cap, yv] w (RTurned w bx (byF (timesF P d) P.n y x))

set_option maxRecDepth 100000 in
set_option maxHeartbeats 1000000 in
theorem rby_of_times {P : PcD} (hv : Valid P) {d : Nat} (HT : RTimesOk P d) : RByOk P d := by
  intro w n₀ bx cap v0 v1 v2 yv x y hP hn0 hX hcap hmax hx hyv hyl hy
  have hn12 := hv.n12
  have HT' := Lib.hid HT
  have HY := Lib.hid hy
  clear HT hy
  have hbx := hX.lt
  obtain ⟨⟨A0, c0, rfl⟩, ⟨A1, c1, rfl⟩, A2, c2, rfl⟩ := pc_slices hP.at_
  obtain ⟨W, hW⟩ : ∃ W, W = (w.alloc (.cells #[.slice A0 P.orders.length c0, .slice A1 P.powers.length c1, .slice A2 P.conj.length c2] 26)).alloc (.cells #[] 3) := ⟨_, rfl⟩
  have hBW : Below w.heap.size w W := by rw [hW]; exact allocs_below [_, _] w _ (Nat.le_refl _)
  have hWb : W.heap[w.heap.size]? = some (.cells #[.slice A0 P.orders.length c0, .slice A1 P.powers.length c1, .slice A2 P.conj.length c2] 26 (0, 0)) := by rw [hW]; exact allocs_get [_, Obj.cells #[] 3] w 0 _ rfl
  have hWe : W.heap[w.heap.size + 1]? = some (.cells #[] 3 (0, 0)) := by rw [hW]; exact allocs_get [Obj.cells _ 26, _] w 1 _ rfl
  have hWs : W.heap.size = w.heap.size + 2 := by rw [hW]; simp
  obtain ⟨b', cap', w3, hr, hb3, hy3, hc3, hm3, hb'⟩ := run_copy hWe (hyv.below hBW) (by rw [hyl]; omega)
  have hb'x : b' ≠ bx := by omega
  have h3b : w3.heap[w.heap.size]? = some (.cells #[.slice A0 P.orders.length c0, .slice A1 P.powers.length c1, .slice A2 P.conj.length c2] 26 (0, 0)) := (hb3.block _ (by omega)).trans hWb
  have hBw3 : Below w.heap.size w w3 := hBW.trans (hb3.mono hBW.size)
  have h3s : w.heap.size + 2 ≤ w3.heap.size := by have := hb3.size; omega
  rw [hyl] at hr hc3
  rw [hW] at hr
  have HR := Lib.hid hr
  have HXX := Lib.hid hX
  have HP := Lib.hid hP
  have HX := Lib.hid hx
  have HB3 := Lib.hid hBw3
  have HY3 := Lib.hid hy3
  have H3B := Lib.hid h3b
  have HYL := Lib.hid hyl
  clear hr hX hP hx hBw3 hb3 hy3 h3b hyl hBW hWb hWe hW hWs hyv hb'
  go_enter Try.func78, Try.ntmps78
  go_wp2_with ((with_reducible refine wpList_sel 10 ?_); refine wpList_val rfl (r_app (.tmp 8) (.tmp 9) 22 rfl rfl rfl HR.out) ?_)
  go_loopw [6] (fun i wr => ∃ k : Nat, k ≤ P.n ∧ i = .int .i64 k ∧ XsAt wr bx (foldTo (fun k x => iter (timesF P d k) (y.getD k 0).toNat x) k x) ∧ w3.grownBy wr (some bx)) (fun i _ => P.n - (intOf i).toNat)
  case atStart => exact ⟨0, Nat.zero_le _, rfl, HXX.out.below HB3.out, World.grownBy.refl _ _⟩
  case round =>
    obtain ⟨k, hk, rfl, hcr, hgr⟩ := hrel
    have hgw : w.grownBy wr (some bx) := (only_of_below HB3.out _).trans hgr
    have hcx : XsAt wr bx (foldTo (fun k x => iter (timesF P d k) (y.getD k 0).toNat x) k x) := hcr
    by_cases hlt : k < P.n
    · have hyk := HY.out k hlt
      have hyr : XsAt wr b' y := HY3.out.grown hgr (fun e => hb'x (Option.some.inj e))
      have hcy := hyr.cell (k := k) (by rw [HYL.out]; exact hlt)
      have hbox := (hgr.block w.heap.size (by omega) (fun e => by have := Option.some.inj e; omega)).trans H3B.out
      have hPr := HP.out.grown hgw hn0 hbx
      have hnx : NV P (foldTo (fun k x => iter (timesF P d k) (y.getD k 0).toNat x) k x) := foldTo_inv k (fun j z hj hz => iter_inv (fun z hz => timesF_NV hv d j z (by omega) hz) _ _ hz) x HX.out
      generalize hm : y.getD k 0 = m at *
      obtain ⟨m', rfl⟩ := Int.eq_ofNat_of_zero_le hyk.1
      have HM := Lib.hid hm
      have hd : m' ≠ 0 → P.n ≤ k + d := fun h => hyk.2.2 (by omega)
      have hm1 : m' ≤ 1000 := by omega
      generalize hxk : foldTo (fun k x => iter (timesF P d k) (y.getD k 0).toNat x) k x = xk at *
      have HK := Lib.hid hxk
      have HXN := Lib.hid hnx
      have HPR := Lib.hid hPr
      have HBOX := Lib.hid hbox
      have HGR := Lib.hid hgr
      have HYR := Lib.hid hyr
      clear hcr hm hyk hxk hnx hPr hbox hyr hgr hgw
      have hbxr := hcx.lt
      have hk0 : (0 : Int) ≤ (k : Int) := Int.natCast_nonneg _
      have hkn : (k : Int) < (P.n : Int) := by omega
      have hszr : w.heap.size + 2 ≤ wr.heap.size := by have := HGR.out.size; omega
      have HCX := Lib.hid hcx
      clear hcx
      go_wp2_with fail
      obtain ⟨wo, rfl⟩ : ∃ wo, wo = wr := ⟨_, rfl⟩
      go_loopw [7] (fun i wr => ∃ j : Nat, j ≤ m' ∧ i = .int .i64 j ∧ XsAt wr bx (iter (timesF P d k) j xk) ∧ wo.grownBy wr (some bx)) (fun i _ => m' - (intOf i).toNat)
      case atStart => exact ⟨0, Nat.zero_le _, rfl, HCX.out, World.grownBy.refl _ _⟩
      case round =>
        obtain ⟨j, hj, rfl, hcj, hgj⟩ := hrel
        have hnj := iter_inv (p := NV P) (f := timesF P d k) (fun z hz => timesF_NV hv d k z hlt hz) j xk HXN.out
        have HN := Lib.hid hnj
        have hcyj : wr.cell? ⟨b', k, none⟩ = some (.int .i64 (m' : Int)) := by
          have := (HYR.out.grown hgj (fun e => hb'x (Option.some.inj e))).cell (k := k) (by rw [HYL.out]; exact hlt)
          rwa [HM.out] at this
        have hboxj : wr.heap[w.heap.size]? = _ := (hgj.block w.heap.size (by omega) (fun e => by have := Option.some.inj e; omega)).trans HBOX.out
        have HCJ := Lib.hid hcj
        have HGJ := Lib.hid hgj
        clear hnj hcj hgj hcy
        by_cases hjl : j < m'
        · go_wp2_with (first
            | ((with_reducible refine wpList_sel 25 ?_); refine wpList_val rfl (r_load26 (.tmp 3) w.heap.size _ _ _ rfl rfl hboxj) ?_)
            | (go_at_call 52; refine (HT'.out _ n₀ bx cap _ _ _ (iter (timesF P d k) j xk) k (HPR.out.grown HGJ.out hn0 hbxr) hn0 HCJ.out hcap hmax HN.out hlt (hd (by omega))).mono ?_; rintro e w2 ⟨rfl, hc2, hg2⟩; have HC2 := Lib.hid hc2; have HG2 := Lib.hid (HGJ.out.trans hg2); clear hc2 hg2))
          go_roundw
          case rel => exact ⟨j + 1, by omega, by go_num, HC2.out, HG2.out⟩
          case measure => simp [intOf]; omega
        · obtain rfl : j = m' := by omega
          go_wp2_with fail
          go_roundw
          case rel => exact ⟨k + 1, by omega, by go_num, by (show XsAt _ _ (iter (timesF P d k) (y.getD k 0).toNat (foldTo (fun k x => iter (timesF P d k) (y.getD k 0).toNat x) k x)); rw [HM.out, HK.out]; exact HCJ.out), HGR.out.trans HGJ.out⟩
          case measure => simp [intOf]; omega
    · obtain rfl : k = P.n := by omega
      go_wp2_with fail
      go_end0
      exact ⟨rfl, hcx, hgw⟩
end Go.Proofs
