/- The reference's sort; The reference's Powers; The reference's Is and Factors; A list of numbers that is turned round in place, plainly; slices.Clone and slices.Reverse at pairs, slices.Reverse at ints, smith.power. -/
import Derived.Test.YthfachbkcmifbaaGreatGrCS18
import Derived.BigQuiet
import Derived.StillTailTactics
import Derived.Laws.OwnMore
import Derived.Test.YthfachbkcmifbaaGreatGrCS16
import Derived.Test.YthfachbkcmifbaaGreatGrCS6
import Derived.Shelf.SlicesQ.Reverse
import Derived.Shelf.Slices.Reverse
import Derived.Ground.SlgnProg
import Derived.Ground.NamesProg
import Derived.Lib.SlKeysI
namespace Go.Proofs
open Go.RowKit Go.Shelf Go.Proofs.Sm
/-- places j + 1 and j of the row change what they hold -/
def swW (w : World) (g j : Nat) (p r : Pr) : World :=
  (((w.setCell ⟨g, (j + 1) * 2, none⟩ (.int .i64 r.1)).setCell ⟨g, (j + 1) * 2 + 1, none⟩ (.int .i64 r.2)).setCell ⟨g, j * 2, none⟩ (.int .i64 p.1)).setCell ⟨g, j * 2 + 1, none⟩ (.int .i64 p.2)
theorem own_base {w : World} {base g N cap : Nat} {L : List Pr} (h : OwnP base w (.slice (some ⟨g, 0, none⟩) N cap) L) : base ≤ g := (OwnP.block h g rfl).1
theorem own_pair {w : World} {base g N cap : Nat} {L : List Pr} (h : OwnP base w (.slice (some ⟨g, 0, none⟩) N cap) L) {k : Nat} (hk : k < L.length) (hL : L.length = N) :
    w.cell? ⟨g, k * 2, none⟩ = some (.int .i64 (L.getD k (0, 0)).1) ∧ w.cell? ⟨g, k * 2 + 1, none⟩ = some (.int .i64 (L.getD k (0, 0)).2) := by
  subst hL
  obtain ⟨h1, h2⟩ := pcells_get L k hk
  exact ⟨(World.ownsRow.cellAt h (k * 2) (by omega)).trans h1, (World.ownsRow.cellAt h (k * 2 + 1) (by omega)).trans h2⟩
theorem pcells_set {L : List Pr} {k : Nat} (p : Pr) (hk : k < L.length) : pcells (L.set k p) = ((pcells L).set (k * 2) (.int .i64 p.1)).set (k * 2 + 1) (.int .i64 p.2) := by
  induction L generalizing k with
  | nil => cases hk
  | cons x L ih =>
    have hc : ∀ (y : Pr) (M : List Pr), pcells (y :: M) = .int .i64 y.1 :: .int .i64 y.2 :: pcells M := fun y M => rfl
    cases k with
    | zero => simp [hc]
    | succ k =>
      have := ih (k := k) (by simpa using hk)
      rw [List.set_cons_succ, hc, hc, this, show (k + 1) * 2 = k * 2 + 1 + 1 by omega]
      simp [List.set_cons_succ]
theorem swW_below {w w0 : World} {base g j : Nat} {p r : Pr} (h : Below base w0 w) (hb : base ≤ g) : Below base w0 (swW w g j p r) :=
  (((h.setCell (p := ⟨g, _, none⟩) hb _).setCell (p := ⟨g, _, none⟩) hb _).setCell (p := ⟨g, _, none⟩) hb _).setCell (p := ⟨g, _, none⟩) hb _
theorem own_swap {w : World} {base g N cap j : Nat} {L : List Pr} (h : OwnP base w (.slice (some ⟨g, 0, none⟩) N cap) L) (hL : L.length = N) (hj : j + 1 < L.length) :
    OwnP base (swW w g j (L.getD (j + 1) (0, 0)) (L.getD j (0, 0))) (.slice (some ⟨g, 0, none⟩) N cap) (swapL L (j + 1)) := by
  subst hL
  have h4 := (((World.ownsRow.stored h ((j + 1) * 2) (.int .i64 (L.getD j (0, 0)).1)).1.stored ((j + 1) * 2 + 1) (.int .i64 (L.getD j (0, 0)).2)).1.stored (j * 2) (.int .i64 (L.getD (j + 1) (0, 0)).1)).1.stored (j * 2 + 1) (.int .i64 (L.getD (j + 1) (0, 0)).2)
  rw [← pcells_set _ hj, ← pcells_set _ (by rw [List.length_set]; omega)] at h4
  have e : (swapL L (j + 1)) = ((L.set (j + 1) (L.getD j (0, 0))).set j (L.getD (j + 1) (0, 0))) := rfl
  unfold OwnP
  rw [swapL_length, e]
  exact h4.1
set_option maxRecDepth 100000 in
set_option maxHeartbeats 4000000 in
theorem sort25_some (base : Nat) (w : World) (g cap : Nat) (ps : List Pr) (h : OwnP base w (.slice (some ⟨g, 0, none⟩) ps.length cap) ps) (hl : ps.length ≤ 1000000) :
    Calls Tryz.prog 25 #[.slice (some ⟨g, 0, none⟩) ps.length cap] w (SortPost base (.slice (some ⟨g, 0, none⟩) ps.length cap) ps w) := by
  obtain ⟨N, hN⟩ : ∃ N, N = ps.length := ⟨_, rfl⟩
  rw [← hN] at h hl ⊢
  have H0 := Lib.hid h
  have HN := Lib.hid hN
  clear h hN
  have hNb : (N : Int) ≤ 1000000 := by omega
  go_enter Tryz.func25, Tryz.ntmps25
  go_wp2_with fail
  go_loopw [2] (fun z wr => ∃ (i : Nat) (L : List Pr), i ≤ N ∧ z = .int .i64 i ∧ Hid (L.length = N ∧ L.Perm ps ∧ SrtTo L i ∧ OwnP base wr (.slice (some ⟨g, 0, none⟩) N cap) L ∧ Below base w wr)) (fun z _ => N - (intOf z).toNat)
  case atStart => exact ⟨0, ps, by omega, rfl, Lib.hid ⟨HN.out.symm, List.Perm.refl _, SrtTo.zero _, H0.out, Below.refl _ _⟩⟩
  case round =>
    obtain ⟨i, L, hi, rfl, HI⟩ := hrel
    have hi0 : (0 : Int) ≤ (i : Int) := Int.natCast_nonneg _
    by_cases hlt : i < N
    · have hlt' : (i : Int) < (N : Int) := by omega
      go_wp2_with fail
      go_loopw [3] (fun z wr1 => ∃ (k : Nat) (L1 : List Pr), k ≤ i ∧ z = .int .i64 k ∧ Hid (L1.length = N ∧ L1.Perm ps ∧ InsTo L1 i k ∧ OwnP base wr1 (.slice (some ⟨g, 0, none⟩) N cap) L1 ∧ Below base w wr1)) (fun z _ => (intOf z).toNat)
      case atStart => exact ⟨i, L, Nat.le_refl _, rfl, Lib.hid ⟨HI.out.1, HI.out.2.1, HI.out.2.2.1.ins, HI.out.2.2.2.1, HI.out.2.2.2.2⟩⟩
      case round =>
        rename_i wr0
        obtain ⟨k, L1, hk, rfl, HK⟩ := hrel
        rcases k with _ | j
        · have h00 : ((0 : Nat) : Int) = 0 := rfl
          rw [h00]
          go_wp2_with fail
          go_quiet (fail)
          go_wp2_with fail
          go_roundw
          case rel => exact ⟨i + 1, L1, by omega, by go_num, Lib.hid ⟨HK.out.1, HK.out.2.1, HK.out.2.2.1.stop (.inl rfl), owns_below HK.out.2.2.2.1 (below_drewN (Below.refl _ _) _), below_drewN HK.out.2.2.2.2 _⟩⟩
          case measure => simp [intOf]; omega
        · have hc1 : ((j + 1 : Nat) : Int) = (j : Int) + 1 := rfl
          rw [hc1]
          have hj0 : (0 : Int) ≤ (j : Int) := Int.natCast_nonneg _
          have hjN : (j : Int) + 1 < (N : Int) := by omega
          have hjN2 : (j : Int) < (N : Int) := by omega
          have hpos : decide ((0 : Int) < (j : Int) + 1) = true := decide_eq_true (by omega)
          have hsub : (j : Int) + 1 - 1 = (j : Int) := by omega
          have hnat : ((j : Int) + 1).toNat = j + 1 := by omega
          have HFZ : Hid (∀ m, wr.frozen? ⟨g, m, none⟩ = false) := Lib.hid fun m => World.ownsRow.frozenAt (by have h := HK.out.2.2.2.1; unfold OwnP at h; rw [HK.out.1] at h; exact h) m
          have hwj : IntKind.i64.wrap (j : Int) = (j : Int) := IntWalk.i64_in _ (by omega)
          obtain ⟨hp1, hp2⟩ := own_pair HK.out.2.2.2.1 (k := j + 1) (by rw [HK.out.1]; omega) HK.out.1
          obtain ⟨hr1, hr2⟩ := own_pair HK.out.2.2.2.1 (k := j) (by rw [HK.out.1]; omega) HK.out.1
          have HSW : Hid (leP (L1.getD (j + 1) (0, 0)) (L1.getD j (0, 0)) = true → InsTo (swapL L1 (j + 1)) i j) := Lib.hid fun h5 => HK.out.2.2.1.swap (Nat.succ_pos j) hk (by rw [HK.out.1]; omega) h5
          have HOW : Hid (∀ q, OwnP base (swW (wr.drewN q) g j (L1.getD (j + 1) (0, 0)) (L1.getD j (0, 0))) (.slice (some ⟨g, 0, none⟩) N cap) (swapL L1 (j + 1))) := Lib.hid fun q => own_swap (owns_below HK.out.2.2.2.1 (below_drewN (Below.refl _ _) q)) HK.out.1 (by rw [HK.out.1]; omega)
          have HBW : Hid (∀ q, Below base w (swW (wr.drewN q) g j (L1.getD (j + 1) (0, 0)) (L1.getD j (0, 0)))) := Lib.hid fun q => swW_below (below_drewN HK.out.2.2.2.2 q) (own_base HK.out.2.2.2.1)
          generalize hp : L1.getD (j + 1) (0, 0) = p at *
          generalize hr : L1.getD j (0, 0) = r at *
          have HPR := Lib.hid (And.intro hp hr)
          clear hp hr
          rcases Int.lt_trichotomy p.1 r.1 with h1 | h1 | h1
          · have HLE : Hid (leP p r = true) := Lib.hid (leP_of (.inl h1))
            have hd1 : decide (p.1 < r.1) = true := decide_eq_true h1
            clear h1
            have HNEW : Hid (∀ q, OwnP base (swW (wr.drewN q) g j p r) (.slice (some ⟨g, 0, none⟩) N cap) (swapL L1 (j + 1)) ∧ Below base w (swW (wr.drewN q) g j p r) ∧ InsTo (swapL L1 (j + 1)) i j) := Lib.hid fun q => ⟨HOW.out q, HBW.out q, HSW.out HLE.out⟩
            go_wp2_with fail
            go_quiet (fail)
            go_wp2_with fail
            have hp1q : (wr.drewN nq).cell? ⟨g, (j + 1) * 2, none⟩ = some (.int .i64 p.1) := hp1
            have hp2q : (wr.drewN nq).cell? ⟨g, (j + 1) * 2 + 1, none⟩ = some (.int .i64 p.2) := hp2
            have hr1q : (wr.drewN nq).cell? ⟨g, j * 2, none⟩ = some (.int .i64 r.1) := hr1
            have hr2q : (wr.drewN nq).cell? ⟨g, j * 2 + 1, none⟩ = some (.int .i64 r.2) := hr2
            have hf1 : (wr.drewN nq).frozen? ⟨g, (j + 1) * 2, none⟩ = false := HFZ.out _
            have hf2 : (wr.drewN nq).frozen? ⟨g, (j + 1) * 2 + 1, none⟩ = false := HFZ.out _
            have hf3 : (wr.drewN nq).frozen? ⟨g, j * 2, none⟩ = false := HFZ.out _
            have hf4 : (wr.drewN nq).frozen? ⟨g, j * 2 + 1, none⟩ = false := HFZ.out _
            have HNQ := Lib.hid (HNEW.out nq)
            clear hp1 hp2 hr1 hr2 HNEW HOW HBW
            generalize wr.drewN nq = W at *
            go_region
            go_wp2_with fail
            go_roundw
            case rel => exact ⟨j, swapL L1 (j + 1), by omega, by go_num, Lib.hid ⟨by rw [swapL_length]; exact HK.out.1, (swapL_perm (Nat.succ_pos j) (by rw [HK.out.1]; omega)).trans HK.out.2.1, HNQ.out.2.2, by first | exact HNQ.out.1 | exact owns_below HNQ.out.1 (below_drewN (Below.refl _ _) _), by first | exact HNQ.out.2.1 | exact below_drewN HNQ.out.2.1 _⟩⟩
            case measure => simp [intOf] <;> omega
          · by_cases h2 : p.2 < r.2
            · have HLE : Hid (leP p r = true) := Lib.hid (leP_of (.inr ⟨h1, h2⟩))
              have hd1 : decide (p.1 < r.1) = false := decide_eq_false (by omega)
              have hd2 : (p.1 == r.1) = true := by simp [h1]
              have hd3 : decide (p.2 < r.2) = true := decide_eq_true h2
              clear h1 h2
              have HNEW : Hid (∀ q, OwnP base (swW (wr.drewN q) g j p r) (.slice (some ⟨g, 0, none⟩) N cap) (swapL L1 (j + 1)) ∧ Below base w (swW (wr.drewN q) g j p r) ∧ InsTo (swapL L1 (j + 1)) i j) := Lib.hid fun q => ⟨HOW.out q, HBW.out q, HSW.out HLE.out⟩
              go_wp2_with fail
              go_quiet (fail)
              go_wp2_with fail
              have hp1q : (wr.drewN nq).cell? ⟨g, (j + 1) * 2, none⟩ = some (.int .i64 p.1) := hp1
              have hp2q : (wr.drewN nq).cell? ⟨g, (j + 1) * 2 + 1, none⟩ = some (.int .i64 p.2) := hp2
              have hr1q : (wr.drewN nq).cell? ⟨g, j * 2, none⟩ = some (.int .i64 r.1) := hr1
              have hr2q : (wr.drewN nq).cell? ⟨g, j * 2 + 1, none⟩ = some (.int .i64 r.2) := hr2
              have hf1 : (wr.drewN nq).frozen? ⟨g, (j + 1) * 2, none⟩ = false := HFZ.out _
              have hf2 : (wr.drewN nq).frozen? ⟨g, (j + 1) * 2 + 1, none⟩ = false := HFZ.out _
              have hf3 : (wr.drewN nq).frozen? ⟨g, j * 2, none⟩ = false := HFZ.out _
              have hf4 : (wr.drewN nq).frozen? ⟨g, j * 2 + 1, none⟩ = false := HFZ.out _
              have HNQ := Lib.hid (HNEW.out nq)
              clear hp1 hp2 hr1 hr2 HNEW HOW HBW
              generalize wr.drewN nq = W at *
              go_region
              go_wp2_with fail
              go_roundw
              case rel => exact ⟨j, swapL L1 (j + 1), by omega, by go_num, Lib.hid ⟨by rw [swapL_length]; exact HK.out.1, (swapL_perm (Nat.succ_pos j) (by rw [HK.out.1]; omega)).trans HK.out.2.1, HNQ.out.2.2, by first | exact HNQ.out.1 | exact owns_below HNQ.out.1 (below_drewN (Below.refl _ _) _), by first | exact HNQ.out.2.1 | exact below_drewN HNQ.out.2.1 _⟩⟩
              case measure => simp [intOf] <;> omega
            · have HLE : Hid (leP (L1.getD j (0, 0)) (L1.getD (j + 1) (0, 0)) = true) := Lib.hid (by rw [HPR.out.1, HPR.out.2]; exact leP_of_not (by omega))
              have hd1 : decide (p.1 < r.1) = false := decide_eq_false (by omega)
              have hd2 : (p.1 == r.1) = true := by simp [h1]
              have hd3 : decide (p.2 < r.2) = false := decide_eq_false h2
              clear h1 h2
              go_wp2_with fail
              go_quiet (fail)
              go_wp2_with fail
              go_roundw
              case rel => exact ⟨i + 1, L1, by omega, by go_num, Lib.hid ⟨HK.out.1, HK.out.2.1, HK.out.2.2.1.stop (.inr HLE.out), owns_below HK.out.2.2.2.1 (below_drewN (Below.refl _ _) _), below_drewN HK.out.2.2.2.2 _⟩⟩
              case measure => simp [intOf] <;> omega
          · have HLE : Hid (leP (L1.getD j (0, 0)) (L1.getD (j + 1) (0, 0)) = true) := Lib.hid (by rw [HPR.out.1, HPR.out.2]; exact leP_of_not (by omega))
            have hd1 : decide (p.1 < r.1) = false := decide_eq_false (by omega)
            have hd2 : (p.1 == r.1) = false := by simp; omega
            clear h1
            go_wp2_with fail
            go_quiet (fail)
            go_wp2_with fail
            go_roundw
            case rel => exact ⟨i + 1, L1, by omega, by go_num, Lib.hid ⟨HK.out.1, HK.out.2.1, HK.out.2.2.1.stop (.inr HLE.out), owns_below HK.out.2.2.2.1 (below_drewN (Below.refl _ _) _), below_drewN HK.out.2.2.2.2 _⟩⟩
            case measure => simp [intOf] <;> omega
    · obtain rfl : i = N := by omega
      go_wp2_with fail
      go_end0
      have h5 := HI.out.2.2.1
      rw [← HI.out.1] at h5
      refine ⟨rfl, ?_, HI.out.2.2.2.2⟩
      rw [← h5.done HI.out.2.1]
      exact HI.out.2.2.2.1
theorem sort25_nil (w : World) (c : Nat) : Calls Tryz.prog 25 #[.slice none 0 c] w fun e w' => e = .returned (.tuple #[]) ∧ ∃ q, w' = w.drewN q := by
  go_enter Tryz.func25, Tryz.ntmps25
  go_wp2_with fail
  go_loopw [2] (fun z wr => z = .int .i64 0 ∧ ∃ q, wr = w.drewN q) (fun _ _ => 0)
  case atStart => exact ⟨rfl, 0, rfl⟩
  case round =>
    obtain ⟨rfl, q, rfl⟩ := hrel
    go_wp2_with fail
    go_end0
    exact ⟨rfl, _, rfl⟩
theorem sort25_any (base : Nat) (w : World) (v : Value) (ps : List Pr) (h : OwnP base w v ps) (hl : ps.length ≤ 1000000) : Calls Tryz.prog 25 #[v] w (SortPost base v ps w) := by
  rcases h.2 with ⟨rfl, h0⟩ | ⟨g, cap, cur, rfl, -⟩
  · obtain rfl : ps = [] := List.length_eq_zero_iff.1 h0
    refine (sort25_nil w 0).mono fun e w' ⟨h1, q, h2⟩ => ⟨h1, ?_, by rw [h2]; exact below_drewN (Below.refl _ _) q⟩
    rw [sortP_nil]
    exact OwnP.nil _ _
  · exact sort25_some base w g cap ps h hl
end Go.Proofs
namespace Go.Proofs
open Go.RowKit Go.Shelf Go.Proofs.Sm
set_option maxRecDepth 100000 in
set_option maxHeartbeats 1000000 in
theorem powers8_any (w : World) (v : Value) (l : List Int) (h : IntsAt w v l) : Calls Tryz.prog 8 #[v] w (PowersPost (powersE l) w) := by
  have hfit := h.2
  obtain ⟨A0, c0, rfl, hc1, hc2, hcc⟩ := h.open_
  obtain ⟨R, hR⟩ : ∃ R, R = powersE l := ⟨_, rfl⟩
  rw [← hR]
  have HR := Lib.hid hR
  have HCC := Lib.hid hcc
  have HFIT := Lib.hid hfit
  clear h hR hcc hfit
  by_cases hlong : 100 < l.length
  · have HE : Hid (R = ([], 4)) := Lib.hid (by rw [HR.out]; unfold powersE; rw [if_pos hlong])
    have hd : (100 : Int) < (l.length : Int) := by omega
    go_enter Tryz.func8, Tryz.ntmps8
    go_wp2_with fail
    go_ret2
    rw [HE.out]
    exact ⟨⟨_, _, rfl, OwnP.nil _ _⟩, Below.refl _ _⟩
  · have hd : ¬ (100 : Int) < (l.length : Int) := by omega
    have hlb : (l.length : Int) ≤ 100 := by omega
    go_enter Tryz.func8, Tryz.ntmps8
    go_wp2_with fail
    go_loopw [4, 5] (fun zo zi wr => ∃ (k m : Nat) (A : Option Addr) (c : Nat), k ≤ l.length ∧ zi = .int .i64 k ∧ zo = .slice A m c ∧ Hid (OwnP w.heap.size wr (.slice A m c) (facs (l.take k)) ∧ m = (facs (l.take k)).length ∧ Below w.heap.size w wr ∧ ∀ j, j < k → badT (l.getD j 0) = false)) (fun _ zi _ => l.length - (intOf zi).toNat)
    case atStart => exact ⟨0, 0, none, 0, by omega, rfl, rfl, Lib.hid ⟨OwnP.nil _ _, rfl, Below.refl _ _, fun j hj => absurd hj (by omega)⟩⟩
    case round =>
      obtain ⟨k, m, A, c, hk, rfl, rfl, HI⟩ := hrel
      have hk0 : (0 : Int) ≤ (k : Int) := Int.natCast_nonneg _
      by_cases hkl : k < l.length
      · have hkl' : (k : Int) < (l.length : Int) := by omega
        obtain ⟨bo, oo, rfl, hcell⟩ := HCC.out (by omega)
        have hx := hcell k hkl
        have hx2 := (HI.out.2.2.1.cell (p := ⟨bo, oo + k, none⟩) (World.block_lt_of_cell? w _ hx)).trans hx
        have HBD := Lib.hid fun h => powersE_bad hlong hkl h
        have HSU := Lib.hid (facs_succ hkl)
        have HAL := Lib.hid (good_succ HI.out.2.2.2)
        clear hx hcell
        generalize l.getD k 0 = x at *
        by_cases hb : x < 2
        · have HE : Hid (R = ([], 2)) := Lib.hid (by rw [HR.out]; exact HBD.out (by unfold badT; rw [decide_eq_true hb]; rfl))
          have hd1 : decide (x < 2) = true := decide_eq_true hb
          clear hb
          go_wp2_with fail
          go_ret2
          rw [HE.out]
          exact ⟨⟨_, _, rfl, OwnP.nil _ _⟩, by first | exact HI.out.2.2.1 | exact below_drewN HI.out.2.2.1 _⟩
        · have hd1 : decide (x < 2) = false := decide_eq_false hb
          by_cases hb2 : 1000000000 < x
          · have HE : Hid (R = ([], 2)) := Lib.hid (by rw [HR.out]; exact HBD.out (by unfold badT; rw [decide_eq_true hb2, Bool.or_true]))
            have hd2 : decide (1000000000 < x) = true := decide_eq_true hb2
            clear hb hb2
            go_wp2_with fail
            go_ret2
            rw [HE.out]
            exact ⟨⟨_, _, rfl, OwnP.nil _ _⟩, by first | exact HI.out.2.2.1 | exact below_drewN HI.out.2.2.1 _⟩
          · have hd2 : decide (1000000000 < x) = false := decide_eq_false hb2
            obtain ⟨y, rfl⟩ : ∃ y : Nat, x = (y : Int) := ⟨x.toNat, by omega⟩
            have hy1 : 1 ≤ y := by omega
            have hy2 : y ≤ 1000000000 := by omega
            have HF := Lib.hid (factors24_yes wr y hy1 hy2)
            rw [Int.toNat_natCast] at HSU
            have hlen := factN_len hy2
            have HNB : Hid (badT (y : Int) = false) := Lib.hid (by unfold badT; rw [hd1, hd2]; rfl)
            have hfl := facs_len (take_good HI.out.2.2.2)
            have hkt : (l.take k).length ≤ 100 := by rw [List.length_take]; omega
            clear hb hb2
            go_wp2_with (first
              | (go_at_call 24; (refine HF.out.mono ?_); rintro e w1 ⟨A2, c2, rfl, ho, hb⟩
                 obtain ⟨A', c', w', hr, ho', hg, -⟩ := run_append_prs (ps := facs (l.take k)) (qs := factN y) (base := w.heap.size) (v := .slice A m c) (.slice A2 (factN y).length c2) (owns_below HI.out.1 hb) (OwnP.prs ho) (by omega) (by omega) (Nat.le_trans HI.out.2.2.1.size hb.size)
                 have HRUN := Lib.hid hr
                 have HN : Hid (OwnP w.heap.size w' (.slice A' (facs (l.take k) ++ factN y).length c') (facs (l.take (k + 1))) ∧ (facs (l.take k) ++ factN y).length = (facs (l.take (k + 1))).length ∧ Below w.heap.size w w' ∧ ∀ j, j < k + 1 → badT (l.getD j 0) = false) := Lib.hid (by
                   refine ⟨by rw [← HSU.out]; exact ho', by rw [HSU.out], (HI.out.2.2.1.trans (hb.mono HI.out.2.2.1.size)).grown hg (Nat.le_trans HI.out.2.2.1.size hb.size) (fun r hr => (OwnP.block HI.out.1 r hr).1), HAL.out HNB.out⟩)
                 clear ho hb hr ho' hg)
              | ((with_reducible refine wpList_sel 39 ?_); refine wpList_val rfl (r_app (.tmp 37) (.tmp 38) 26 rfl rfl rfl HRUN.out) ?_))
            go_roundw
            case rel => exact ⟨k + 1, _, A', c', by omega, by go_num, rfl, Lib.hid (by have h := HN.out; rw [List.length_append] at h; exact h)⟩
            case measure => simp [intOf]; omega
      · obtain rfl : k = l.length := by omega
        have hfl := facs_len (take_good HI.out.2.2.2)
        have hkt : (l.take l.length).length ≤ 100 := by rw [List.length_take]; omega
        have HS := Lib.hid (sort25_any w.heap.size wr (.slice A m c) _ HI.out.1 (by omega))
        have HE : Hid (R = (sortP (facs l), 0)) := Lib.hid (by rw [HR.out]; exact powersE_good hlong HI.out.2.2.2)
        have HM : Hid (m = (sortP (facs l)).length) := Lib.hid (by rw [HI.out.2.1, List.take_length, sortP_length])
        clear hfl hkt
        go_wp2_with (go_at_call 25; (refine HS.out.mono ?_); rintro e w1 ⟨rfl, ho, hb⟩; have HO := Lib.hid (And.intro ho hb); clear ho hb)
        go_ret2
        have h1 := HO.out.1
        rw [List.take_length] at h1
        rw [HM.out] at h1 ⊢
        rw [HE.out]
        exact ⟨⟨A, c, rfl, h1⟩, HI.out.2.2.1.trans HO.out.2⟩
end Go.Proofs
namespace Go.Proofs
open Go.RowKit Go.Shelf Go.Proofs.Sm
set_option maxRecDepth 100000 in
theorem is33_any (w : World) (x : Int) : Calls Tryz.prog 33 #[.int .i64 x] w fun e w' => e = .returned (.bool (isE x)) ∧ ∃ q, w' = w.drewN q := by
  by_cases h1 : x < 2
  · have HE := Lib.hid (isE_out (x := x) (.inl h1))
    have hd1 : decide (x < 2) = true := decide_eq_true h1
    clear h1
    go_enter Tryz.func33, Tryz.ntmps33
    go_wp2_with fail
    go_ret
    exact ⟨by rw [HE.out]; rfl, 0, rfl⟩
  · by_cases h2 : 1000000 ≤ x
    · have HE := Lib.hid (isE_out (x := x) (.inr h2))
      have hd1 : decide (x < 2) = false := decide_eq_false h1
      have hd2 : decide (1000000 ≤ x) = true := decide_eq_true h2
      clear h1 h2
      go_enter Tryz.func33, Tryz.ntmps33
      go_wp2_with fail
      go_ret
      exact ⟨by rw [HE.out]; rfl, 0, rfl⟩
    · obtain ⟨n, rfl⟩ : ∃ n : Nat, x = (n : Int) := ⟨x.toNat, by omega⟩
      have hn2 : 2 ≤ n := by omega
      have hnb : n < 1000000 := by omega
      have hd1 : decide ((n : Int) < 2) = false := decide_eq_false h1
      have hd2 : decide (1000000 ≤ (n : Int)) = false := decide_eq_false h2
      obtain ⟨R, hR⟩ : ∃ R, R = isE (n : Int) := ⟨_, rfl⟩
      rw [← hR]
      have HR := Lib.hid hR
      clear hR
      go_enter Tryz.func33, Tryz.ntmps33
      go_wp2_with fail
      go_loopw [3] (fun z wr => ∃ d : Nat, z = .int .i64 d ∧ 2 ≤ d ∧ d ≤ 40000 ∧ Hid (∀ e, 2 ≤ e → e < d → n % e ≠ 0) ∧ ∃ q, wr = w.drewN q) (fun z _ => 40001 - (intOf z).toNat)
      case atStart => exact ⟨2, rfl, by omega, by omega, Lib.hid fun e h3 h4 => by omega, 0, rfl⟩
      case round =>
        obtain ⟨d, rfl, hd, hd2, HI, q, rfl⟩ := hrel
        have hd0 : (2 : Int) ≤ (d : Int) := by omega
        have hdb : (d : Int) ≤ 40000 := by omega
        have hm1 : d * d ≤ 1600000000 := Nat.le_trans (Nat.mul_le_mul hd2 hd2) (by omega)
        have hcast : (d : Int) * (d : Int) = ((d * d : Nat) : Int) := by rw [Int.natCast_mul]
        have hwz : IntKind.i64.wrap ((d : Int) * (d : Int)) = ((d * d : Nat) : Int) := by rw [hcast]; exact IntWalk.i64_in _ (by omega)
        by_cases hc : d * d ≤ n
        · have hd3 := sq_lt hc (by omega)
          have hci : ((d * d : Nat) : Int) ≤ (n : Int) := by omega
          have hdne : ((d : Int) == 0) = false := by simp; omega
          have hdne2 : ((d : Int) != 0) = true := by simp; omega
          have ht := tmod_nat n d
          have hmd : n % d < d := Nat.mod_lt _ (by omega)
          have hwt : IntKind.i64.wrap ((n % d : Nat) : Int) = ((n % d : Nat) : Int) := IntWalk.i64_in _ (by omega)
          have HNO : Hid (n % d = 0 → false = R) := Lib.hid fun h0 => by rw [HR.out, isE_no hd hc h0]
          have HMI : Hid (n % d ≠ 0 → ∀ e, 2 ≤ e → e < d + 1 → n % e ≠ 0) := Lib.hid fun h0 e h3 h4 => by
            rcases Nat.eq_or_lt_of_le (Nat.le_of_lt_succ h4) with rfl | h5
            · exact h0
            · exact HI.out e h3 h5
          clear hcast
          generalize d * d = m at *
          by_cases h0 : n % d = 0
          · have HE := Lib.hid (HNO.out h0)
            rw [h0] at ht hwt
            have ht0 : ((0 : Nat) : Int) = 0 := rfl
            rw [ht0] at ht hwt
            go_wp2_with fail
            go_ret
            exact ⟨by rw [← HE.out]; rfl, (by first | exact ⟨_, rfl⟩ | exact ex_drewN)⟩
          · have HE := Lib.hid (HMI.out h0)
            have hne : (((n % d : Nat) : Int) == 0) = false := by simp; omega
            clear HNO HMI
            generalize n % d = x at *
            go_wp2_with fail
            go_roundw
            case rel => exact ⟨d + 1, by go_num, by omega, by omega, HE, (by first | exact ⟨_, rfl⟩ | exact ex_drewN)⟩
            case measure => simp [intOf]; omega
        · have HE : Hid (true = R) := Lib.hid (by
            rw [HR.out, isE_yes hn2 hnb fun e h3 h4 => HI.out e h3 (by
              rcases Nat.lt_or_ge e d with h5 | h5
              · exact h5
              · have := Nat.mul_le_mul h5 h5
                omega)])
          have hci : ¬ ((d * d : Nat) : Int) ≤ (n : Int) := by omega
          clear hcast
          generalize d * d = m at *
          go_wp2_with fail
          go_ret
          exact ⟨by rw [← HE.out]; rfl, _, rfl⟩
end Go.Proofs
namespace Go.Proofs
open Go.RowKit Go.Shelf Go.Proofs.Sm
/-- the first m places and the last m have changed what they hold -/
def RevI (o X : List Int) (m : Nat) : Prop := X.length = o.length ∧ ∀ t, t < o.length → X.getD t 0 = if t < m ∨ o.length ≤ t + m then o.getD (o.length - 1 - t) 0 else o.getD t 0
theorem RevI.zero (o : List Int) : RevI o o 0 := ⟨rfl, fun t h => by rw [if_neg (by omega)]⟩
theorem getD_set_int (X : List Int) (a t : Nat) (z : Int) (ha : a < X.length) : (X.set a z).getD t 0 = if t = a then z else X.getD t 0 := by
  simp only [List.getD_eq_getElem?_getD, List.getElem?_set]
  by_cases h : a = t
  · rw [if_pos h, if_pos h.symm, if_pos (by omega)]; rfl
  · rw [if_neg h, if_neg (fun e => h e.symm)]
theorem RevI.step {o X : List Int} {m : Nat} (h : RevI o X m) (hm : m + m + 1 < o.length) : RevI o ((X.set m (X.getD (o.length - 1 - m) 0)).set (o.length - 1 - m) (X.getD m 0)) (m + 1) := by
  obtain ⟨hl, h⟩ := h
  refine ⟨by simp [hl], fun t ht => ?_⟩
  rw [getD_set_int _ _ _ _ (by rw [List.length_set]; omega), getD_set_int _ _ _ _ (by omega), h _ (show o.length - 1 - m < o.length by omega), h _ (show m < o.length by omega), h _ ht]
  rw [if_neg (show ¬ (o.length - 1 - m < m ∨ o.length ≤ o.length - 1 - m + m) by omega), if_neg (show ¬ (m < m ∨ o.length ≤ m + m) by omega)]
  by_cases h1 : t = o.length - 1 - m
  · rw [if_pos h1, if_pos (show t < m + 1 ∨ o.length ≤ t + (m + 1) by omega)]
    congr 1
    omega
  · rw [if_neg h1]
    by_cases h2 : t = m
    · rw [if_pos h2, if_pos (show t < m + 1 ∨ o.length ≤ t + (m + 1) by omega), h2]
    · rw [if_neg h2]
      by_cases h3 : t < m ∨ o.length ≤ t + m
      · rw [if_pos h3, if_pos (by omega)]
      · rw [if_neg h3, if_neg (by omega)]
theorem RevI.done {o X : List Int} {m : Nat} (h : RevI o X m) (hm : o.length ≤ m + m + 1) : X = o.reverse := by
  obtain ⟨hl, h⟩ := h
  apply List.ext_getElem?
  intro t
  rcases Nat.lt_or_ge t o.length with ht | ht
  · have h1 := h t ht
    rw [List.getElem?_reverse ht]
    rw [List.getD_eq_getElem?_getD, List.getElem?_eq_getElem (show t < X.length by omega), Option.getD_some] at h1
    rw [List.getElem?_eq_getElem (show t < X.length by omega), List.getElem?_eq_getElem (show o.length - 1 - t < o.length by omega), h1]
    by_cases h2 : t < m ∨ o.length ≤ t + m
    · rw [if_pos h2, List.getD_eq_getElem?_getD, List.getElem?_eq_getElem (show o.length - 1 - t < o.length by omega)]; rfl
    · rw [if_neg h2, List.getD_eq_getElem?_getD, List.getElem?_eq_getElem ht]
      have : o.length - 1 - t = t := by omega
      simp only [this, Option.getD_some]
  · rw [List.getElem?_eq_none (by omega), List.getElem?_eq_none (by rw [List.length_reverse]; exact ht)]
theorem sortD_get (ps : List Pr) {i k : Nat} (h : i + k + 1 = ps.length) : (sortD ps).getD k (0, 0) = (sortP ps).getD i (0, 0) := by
  unfold sortD
  have hl := sortP_length ps
  rw [List.getD_eq_getElem?_getD, List.getD_eq_getElem?_getD, List.getElem?_reverse (by omega), hl, show ps.length - 1 - k = i by omega]
theorem set_getD_self (o : List Int) (a : Nat) : o.set a (o.getD a 0) = o := by
  rcases Nat.lt_or_ge a o.length with h | h
  · rw [List.getD_eq_getElem?_getD, List.getElem?_eq_getElem h, Option.getD_some, List.set_getElem_self]
  · rw [List.set_eq_of_length_le h]
end Go.Proofs
namespace Go.Proofs
open Go.RowKit Go.Shelf Go.Proofs.Sm Go.Lib Go.Sort
shelf_lay_g SlLaysE0.n35 Slgn 35 at Tryz 30 as Tryz.reverseP
shelf_lay Lays.n112 Nm 112 at Tryz as Tryz.reverseI
theorem run_copyP {w : World} {v : Value} {ps : List Pr} (h : PrsAt w v ps) (hl : ps.length ≤ 1000000) :
    ∃ A c w', (Builtin.append_ #[26, 26] 26 #[.slice (some ⟨w.heap.size, 0, none⟩) 0 0, v]).run Tryz.prog (w.alloc (.cells #[] 38)) = .ok (.slice A ps.length c) w' ∧ RowKit.Below w.heap.size w w' ∧ OwnP w.heap.size w' (.slice A ps.length c) ps := by
  have hal : RowKit.Below w.heap.size w (w.alloc (.cells #[] 38)) := (RowKit.Below.refl _ _).alloc (Nat.le_refl _) _
  have hown : OwnP w.heap.size (w.alloc (.cells #[] 38)) (.slice (some ⟨w.heap.size, 0, none⟩) 0 0) [] := ⟨rfl, .inr ⟨w.heap.size, 0, #[], rfl, Nat.le_refl _, heap_alloc_new w _, Nat.le_refl _, by simp, rfl, rfl⟩⟩
  obtain ⟨A, c, w', h1, h2, h3, -⟩ := run_append_prs (w := w.alloc (.cells #[] 38)) v hown (h.below hal) (by simp) hl hal.size
  exact ⟨A, c, w', h1, hal.grown h3 hal.size (fun r hr => by cases hr; exact Nat.le_refl _), h2⟩
theorem eqnilP_none (w : World) (n c : Nat) : (binOp .eql 26 (.slice none n c) (.slice none 0 0)).run Tryz.prog w = .ok (.bool true) w := by kernel_rfl
theorem eqnilP_some (w : World) (a : Addr) (n c : Nat) : (binOp .eql 26 (.slice (some a) n c) (.slice none 0 0)).run Tryz.prog w = .ok (.bool false) w := by kernel_rfl
def CopyPost (ps : List Pr) (w : World) (e : Ending) (w' : World) : Prop := ∃ A c, e = .returned (.slice A ps.length c) ∧ OwnP w.heap.size w' (.slice A ps.length c) ps ∧ RowKit.Below w.heap.size w w'
set_option maxRecDepth 100000 in
theorem clone51_any (w : World) (v : Value) (ps : List Pr) (h : PrsAt w v ps) (hl : ps.length ≤ 1000000) : Calls Tryz.prog 29 #[v] w (CopyPost ps w) := by
  obtain ⟨A0, c0, w', hr, hb, ho⟩ := run_copyP h hl
  have HR := Lib.hid hr
  have HB := Lib.hid hb
  have HO := Lib.hid ho
  obtain ⟨A, cap, rfl, hcap, hmax, hc⟩ := h
  cases A with
  | none =>
    have h0 : ps = [] := by
      rcases Nat.eq_zero_or_pos ps.length with h0 | h0
      · exact List.length_eq_zero_iff.1 h0
      · obtain ⟨b, off, hx, -⟩ := hc h0
        cases hx
    clear hr hb ho hc HR HB HO
    subst h0
    have hq := eqnilP_none w
    go_enter Tryz.func29, Tryz.ntmps29
    go_wp2_with fail
    go_ret
    exact ⟨none, 0, rfl, OwnP.nil _ _, RowKit.Below.refl _ _⟩
  | some a =>
    clear hr hb ho hc
    have hq := eqnilP_some w
    go_enter Tryz.func29, Tryz.ntmps29
    go_wp2_with ((with_reducible refine wpList_sel 7 ?_); refine wpList_val rfl (r_app (.tmp 5) (.tmp 6) 26 rfl rfl rfl HR.out) ?_)
    go_ret
    exact ⟨_, _, rfl, HO.out, HB.out⟩
set_option maxRecDepth 100000 in
theorem own28_any (w : World) (v : Value) (ps : List Pr) (h : PrsAt w v ps) (hl : ps.length ≤ 1000000) : Calls Tryz.prog 34 #[v] w (CopyPost ps w) := by
  obtain ⟨A0, c0, w', hr, hb, ho⟩ := run_copyP h hl
  have HR := Lib.hid hr
  have HB := Lib.hid hb
  have HO := Lib.hid ho
  clear hr hb ho h
  go_enter Tryz.func34, Tryz.ntmps34
  go_wp2_with ((with_reducible refine wpList_sel 5 ?_); refine wpList_val rfl (r_app (.tmp 3) (.tmp 4) 26 rfl rfl rfl HR.out) ?_)
  go_ret
  exact ⟨_, _, rfl, HO.out, HB.out⟩
/-- other pairs are written into the row -/
theorem ownP_put {w : World} {base g cap : Nat} {ps : List Pr} (h : OwnP base w (.slice (some ⟨g, 0, none⟩) ps.length cap) ps) (qs : List Pr) (hl : qs.length = ps.length) (n : Nat) :
    HoldsK pcell 2 w g 0 ps.toArray ∧ OwnP base (putRowK pcell 2 (Sort.ahead w n) g 0 qs.toArray) (.slice (some ⟨g, 0, none⟩) ps.length cap) qs ∧ RowKit.Below base w (putRowK pcell 2 (Sort.ahead w n) g 0 qs.toArray) := by
  obtain ⟨hlen, ho⟩ := h
  rcases ho with ⟨e, -⟩ | ⟨g', cap', cur, e, hb, hC, h1, hm, hs, ht⟩
  · cases e
  · injection e with e1 e2 e3
    injection e1 with e1
    injection e1 with e1
    subst e1 e3
    have hg : g < w.heap.size := (Array.getElem?_eq_some_iff.1 hC).1
    have hpl : (pcells qs).length = ps.length * 2 := by rw [pcells_length, hl]
    refine ⟨?_, ?_, ?_⟩
    · unfold HoldsK
      rw [flatK_get]
      intro j hj
      have hj' : j < (pcells ps).length := by simpa using hj
      refine ⟨?_, by simp [World.frozen?, hC]⟩
      have h5 : (cur.toList.take (ps.length * 2))[j]? = (pcells ps)[j]? := by rw [ht]
      rw [List.getElem?_take, if_pos (by rw [← pcells_length]; exact hj')] at h5
      rw [Nat.zero_add, cell_of_row _ _ _ _ _ _ hC]
      have : (pcells ps).toArray[j]! = (pcells ps)[j] := by simp [hj']
      rw [this, id, ← List.getElem?_eq_getElem hj', ← h5]
      simp
    · have hh := heap_sortedW (n := n) (os := #[]) (pcells qs).toArray hC
      rw [grow_empty] at hh
      unfold putRowK
      rw [flatK_get]
      refine ⟨by rw [pcells_length], .inr ⟨g, cap, _, by rw [hl], hb, hh, by rw [hl]; exact h1, hm, by simp [putCells, hs], ?_⟩⟩
      rw [hl, ← hpl]
      exact take_putCellsW cur _ (by rw [hpl, hs]; omega)
    · have hh := grownBy_sortedW (w := w) (g := g) (n := n) (os := #[]) (pcells qs).toArray
      rw [grow_empty] at hh
      unfold putRowK
      rw [flatK_get]
      exact (RowKit.Below.refl base w).grown hh (Nat.le_trans hb (Nat.le_of_lt hg)) fun r hr => by cases hr; exact hb
theorem reverse52_any (base : Nat) (w : World) (v : Value) (ps : List Pr) (h : OwnP base w v ps) (hl : ps.length ≤ 1000000) : Calls Tryz.prog 30 #[v] w fun e w' => e = .returned (.tuple #[]) ∧ OwnP base w' v ps.reverse ∧ RowKit.Below base w w' := by
  rcases h.2 with ⟨rfl, h0⟩ | ⟨g, cap, cur, rfl, -⟩
  · obtain rfl : ps = [] := List.length_eq_zero_iff.1 h0
    have hc : Calls Tryz.prog 30 #[.slice none 0 0] w _ := AnyQ.slices_Reverse_empty Tryz.reverseP none 0 w
    exact hc.mono fun e w' ⟨h1, h2⟩ => ⟨h1, OwnP.nil _ _, by rw [h2]; exact RowKit.Below.refl _ _⟩
  · have hp := fun n => ownP_put h ps.reverse (by simp) n
    have hc : Calls Tryz.prog 30 #[.slice (some ⟨g, 0, none⟩) ps.length cap] w _ := AnyQ.slices_Reverse Tryz.reverseP 2 isAgg56 sizeOf56 pcell (fun _ => rfl) (fun x v hv => by simp [pcell] at hv; rcases hv with rfl | rfl <;> rfl) g 0 cap ps.toArray w (hp 0).1 (by simp; omega)
    refine hc.mono ?_
    rintro e w' ⟨h1, n, rfl⟩
    have e2 : ps.toArray.reverse = ps.reverse.toArray := by simp
    rw [e2]
    exact ⟨h1, (hp n).2.1, (hp n).2.2⟩
theorem reverse54_any (base : Nat) (w : World) (v : Value) (xs : List Int) (h : OwnI base w v xs) (hl : xs.length ≤ 1000000) : Calls Tryz.prog 32 #[v] w fun e w' => e = .returned (.tuple #[]) ∧ OwnI base w' v xs.reverse ∧ RowKit.Below base w w' := by
  rcases h.2 with ⟨rfl, h0⟩ | ⟨g, cap, cur, rfl, hb, hC, h1, hm, hs, ht⟩
  · obtain rfl : xs = [] := List.length_eq_zero_iff.1 h0
    have hc : Calls Tryz.prog 32 #[.slice none 0 0] w _ := Any.slices_Reverse_int_empty Tryz.reverseI none 0 w
    exact hc.mono fun e w' ⟨h1, h2⟩ => ⟨h1, World.ownsRow_nil _ _ _ _, by rw [h2]; exact RowKit.Below.refl _ _⟩
  · have hg : g < w.heap.size := (Array.getElem?_eq_some_iff.1 hC).1
    have hH : Holds (Value.int .i64) w g 0 xs.toArray := holds_of_block_i hC (by rw [Nat.mul_one] at ht; exact ht)
    have hc : Calls Tryz.prog 32 #[.slice (some ⟨g, 0, none⟩) xs.length cap] w _ := Any.slices_Reverse_int Tryz.reverseI g 0 cap xs w hH (by omega)
    refine hc.mono ?_
    rintro e w' ⟨h2, n, rfl⟩
    have ho := ownsRow_sorted_i (n := n) (os := #[]) (ss := xs) (ts := xs.reverse) (by simp) hb hC h1 hm hs
    have hgr := grownBy_sorted_i (w := w) (g := g) (n := n) (os := #[]) xs.reverse.toArray
    rw [grow_empty] at ho hgr
    refine ⟨h2, ?_, (RowKit.Below.refl base w).grown hgr (Nat.le_trans hb (Nat.le_of_lt hg)) fun r hr => by cases hr; exact hb⟩
    unfold OwnI
    rw [List.length_reverse]
    exact ho
end Go.Proofs
