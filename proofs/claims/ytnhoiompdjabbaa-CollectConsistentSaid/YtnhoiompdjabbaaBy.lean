import Derived.Test.YtnhoiompdjabbaaColl
namespace Go.Proofs
open Go.RowKit Go.Proofs.Pc

set_option maxHeartbeats 400000 in
theorem by_of_times {P : PcD} (hv : Valid P) {d : Nat} (HT : TimesOk P d) : ByOk P d := by
  intro w bc br x y hc hr hne hx hy
  have hn12 := hv.n12
  have HT' := Lib.hid HT
  have HY := Lib.hid hy
  clear HT hy
  have hcp := hc.ptr
  have hrn := hr.n
  have hbc := hc.lt
  have hbr := hr.lt
  have HC := Lib.hid hc
  have HR := Lib.hid hr
  clear hc hr
  go_enter Try.func80, Try.ntmps80
  go_wp2_with fail
  go_loopw [4, 12] (fun s4 i wr => ∃ k : Nat, k ≤ P.n ∧ i = .int .i64 k ∧ CollAt wr bc br (foldTo (fun k x => iter (timesF P d k) (y.getD k 0).toNat x) k x) ∧ (w.alloc (.cells (vec y).toArray 82)).grownBy wr (some bc)) (fun _ i _ => P.n - (intOf i).toNat)
  case atStart => exact ⟨0, Nat.zero_le _, rfl, HC.out.below ((Below.refl _ _).alloc (Nat.le_refl _) _), World.grownBy.refl _ _⟩
  case round =>
    obtain ⟨k, hk, rfl, hcr, hgr⟩ := hrel
    have hgw : w.grownBy wr (some bc) := only_trans (World.grownBy_alloc w _ _) hgr
    have hrr := HR.out.grown hgw (by simp; omega)
    have hcx : CollAt wr bc br (foldTo (fun k x => iter (timesF P d k) (y.getD k 0).toNat x) k x) := hcr
    by_cases hlt : k < P.n
    · have hyk := HY.out k hlt
      have hcy : wr.cell? ⟨w.heap.size, k, none⟩ = some (.int .i64 (y.getD k 0)) := by
        rw [World.cell?_of_block (w := w.alloc (.cells (vec y).toArray 82)) (hgr.block w.heap.size (by simp) (by simp; omega)), cell_of_row _ _ _ _ _ _ (heap_alloc_new w _)]
        simpa using getElem?_vec y (k := k) (by omega)
      have hnx : NV P (foldTo (fun k x => iter (timesF P d k) (y.getD k 0).toNat x) k x) := foldTo_inv k (fun j z hj hz => iter_inv (fun z hz => timesF_NV hv d j z (by omega) hz) _ _ hz) x hx
      generalize hm : y.getD k 0 = m at *
      obtain ⟨m', rfl⟩ := Int.eq_ofNat_of_zero_le hyk.1
      have HM := Lib.hid hm
      have hd : m' ≠ 0 → P.n ≤ k + d := fun h => hyk.2.2 (by omega)
      have hm1 : m' ≤ 1000 := by omega
      generalize hxk : foldTo (fun k x => iter (timesF P d k) (y.getD k 0).toNat x) k x = xk at *
      have HK := Lib.hid hxk
      clear hcr hm hyk hxk
      have HX := Lib.hid hnx
      clear hnx
      go_wp2_with fail
      obtain ⟨wo, rfl⟩ : ∃ wo, wo = wr := ⟨_, rfl⟩
      go_loopw [18] (fun i wr => ∃ j : Nat, j ≤ m' ∧ i = .int .i64 j ∧ CollAt wr bc br (iter (timesF P d k) j xk) ∧ wo.grownBy wr (some bc)) (fun i _ => m' - (intOf i).toNat)
      case atStart => exact ⟨0, Nat.zero_le _, rfl, hcx, World.grownBy.refl _ _⟩
      case round =>
        obtain ⟨j, hj, rfl, hcj, hgj⟩ := hrel
        have hnj := iter_inv (p := NV P) (f := timesF P d k) (fun z hz => timesF_NV hv d k z hlt hz) j xk HX.out
        have HN := Lib.hid hnj
        clear hnj
        by_cases hjl : j < m'
        · go_wp2_with (go_at_call 79; refine (HT'.out _ bc br (iter (timesF P d k) j xk) k hcj (hrr.grown hgj (by simp; omega)) hne HN.out hlt (hd (by omega))).mono ?_; rintro e w2 ⟨rfl, hc2, hg2⟩)
          go_roundw
          case rel => exact ⟨j + 1, by omega, by go_num, hc2, only_trans hgj hg2⟩
          case measure => simp [intOf]; omega
        · have hjm : j = m' := by omega
          subst hjm
          go_wp2_with fail
          go_roundw
          case rel => exact ⟨k + 1, by omega, by go_num, by (show CollAt _ _ _ (iter (timesF P d k) (y.getD k 0).toNat (foldTo (fun k x => iter (timesF P d k) (y.getD k 0).toNat x) k x)); rw [HM.out, HK.out]; exact hcj), only_trans hgr hgj⟩
          case measure => simp [intOf]; omega
    · have hkn : k = P.n := by omega
      subst hkn
      go_wp2_with fail
      go_end0
      exact ⟨rfl, hcx, hgw⟩
end Go.Proofs
