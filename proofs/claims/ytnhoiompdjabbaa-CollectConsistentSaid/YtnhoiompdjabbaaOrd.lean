/- list; the order of a live group. -/
import Derived.Test.YtnhoiompdjabbaaCl
import Derived.Test.YtnhoiompdjabbaaOf
namespace Go.Proofs
open Go.RowKit Go.Proofs.Pc

theorem Pc.NV.fits {P : PcD} (hv : Valid P) {x : List Int} (h : NV P x) : Fits x := fun y hy => by
  obtain ⟨k, hk, rfl⟩ := List.getElem_of_mem hy
  have h1 := h.2 k (by rw [← h.1]; exact hk)
  have h2 := (hv.ord2 k (by rw [← h.1]; exact hk)).2
  have e : x.getD k 0 = x[k] := by simp [List.getD_eq_getElem?_getD, hk]
  rw [e] at h1
  omega

theorem intsAt_vec {w : World} {b n : Nat} {x : List Int} (hr : w.rangeAt b 0 (vec x)) (hx : x.length = n) (hn : n ≤ 12) (hf : Fits x) : IntsAt w (.slice (some ⟨b, 0, none⟩) n 12) x :=
  ⟨⟨_, n, 12, rfl, by simp [ints, hx], hn, by simp [maxLen], fun _ => ⟨b, 0, rfl, fun j u hu => by
    have hj : j < x.length := by
      rcases Nat.lt_or_ge j x.length with h | h
      · exact h
      · rw [List.getElem?_eq_none (by simpa [ints] using h)] at hu; cases hu
    refine hr j u ?_
    have := vec_get x (show j < 12 by omega)
    rw [List.getElem?_toArray] at this
    rw [this, ← hu]
    simp [ints, hj]⟩⟩, hf⟩

theorem run_sliceAt_vech (w : World) (b k : Nat) (hk : k ≤ 12) : (Instr.sliceAt 82 (.pointer (some ⟨b, 0, none⟩)) none (some (.int .i64 (k : Int))) none).run Try.prog w = .ok (.slice (some ⟨b, 0, none⟩) k 12) w := by
  have h1 : ((k : Int)) ≤ 12 := by omega
  obtain ⟨i, hi⟩ := info3
  simp [Instr.sliceAt, run_underlying Try.underlying82, Instr.sureAddr, Instr.sliceBounds, Instr.sliceBound, asIntOf, sizeOf, typeInfo, hk, hi]
  rw [Addr.add_mid]

set_option maxRecDepth 100000 in
set_option maxHeartbeats 1000000 in
theorem list_any {P : PcD} (hv : Valid P) (w : World) (br : Nat) (hr : RulesAt w br P) (x : List Int) (hx : NV P x) :
    Calls Try.prog 70 #[.pointer (some ⟨br, 0, none⟩), .agg (vec x).toArray] w fun e w' => ∃ u, e = .returned u ∧ IntsAt w' u x ∧ Below w.heap.size w w' := by
  have hn := ((KC.refl w).alloc (.cells (vec x).toArray 82)).cell hr.n
  have h12 := hv.n12
  have hi := intsAt_vec (range_new w x) hx.1 h12 (Pc.NV.fits hv hx)
  have hl : x.length ≤ 1000 := by rw [hx.1]; omega
  have hb : Below w.heap.size w (w.alloc (.cells (vec x).toArray 82)) := (Below.refl _ _).alloc (Nat.le_refl _) _
  have hsl := run_sliceAt_vech (w.alloc (.cells (vec x).toArray 82)) w.heap.size P.n h12
  have HI := Lib.hid hi
  have HB := Lib.hid hb
  clear hr hi hb
  go_enter Try.func70, Try.ntmps70
  go_wp2_with (go_at_call 84; refine (clone_any _ _ x HI.out hl).mono ?_; rintro e w' ⟨u, rfl, hu, hbe⟩)
  exact bodyPost_ret (results_tmp (t := 4) rfl _ _ _) rfl ⟨u, rfl, hu, HB.out.trans (hbe.mono HB.out.size)⟩

def Small (P : PcD) : Prop := ∀ k, k ≤ P.n → 0 ≤ prod P k ∧ prod P k ≤ 50000
set_option maxRecDepth 100000 in
set_option maxHeartbeats 1000000 in
theorem order_live {P : PcD} (hv : Valid P) (hs : Small P) (w : World) (bg br : Nat) (hg : Live w bg br) (hr : RulesAt w br P) :
    Calls Try.prog 18 #[.pointer (some ⟨bg, 0, none⟩)] w fun e w' => e = .returned (.int .i64 (prod P P.n)) ∧ w' = w := by
  have hrn := hr.n
  have hro := hr.ord
  have h12 := hv.n12
  have hge := hg
  unfold Live at hge
  clear hr
  go_enter Try.func18, Try.ntmps18
  go_wp2_with (go_at_call 54; refine (valid_live w bg br hg).mono ?_; rintro e w' ⟨rfl, rfl⟩)
  go_loop [3, 4, 15] (fun s _ i => ∃ k : Nat, k ≤ P.n ∧ i = .int .i64 k ∧ s = .int .i64 (prod P k)) (fun _ _ i => P.n - (intOf i).toNat)
  case atStart => exact ⟨0, Nat.zero_le _, rfl, rfl⟩
  case round =>
    obtain ⟨k, hk, rfl, rfl⟩ := hrel
    by_cases hlt : k < P.n
    · have c1 : w'.cell? ⟨br, 1 + k, none⟩ = some (.int .i64 (P.ord k)) := hro k _ (by have := vec_get P.orders (show k < 12 by omega); rwa [List.getElem?_toArray] at this)
      have hm := hs (k + 1) (by omega)
      have hmw : IntKind.i64.wrap (prod P k * P.ord k) = prod P k * P.ord k := IntWalk.i64_in _ (by show _ ≤ prod P (k + 1) ∧ prod P (k + 1) ≤ _; omega)
      have hst : prod P (k + 1) = prod P k * P.ord k := rfl
      have hk0 : (0 : Int) ≤ (k : Int) := Int.natCast_nonneg _
      have hk1 : (k : Int) < 12 := by omega
      clear hro hm hs
      generalize prod P k = a at *
      generalize P.ord k = y at *
      go_wp2_with fail
      all_goals first
        | (go_round
           case rel => exact ⟨k + 1, by omega, by go_num, by rw [hst]⟩
           case measure => simp [intOf]; omega)
        | trace_state
    · obtain rfl : k = P.n := by omega
      go_wp2_with fail
      go_ret
      exact ⟨rfl, rfl⟩
end Go.Proofs
