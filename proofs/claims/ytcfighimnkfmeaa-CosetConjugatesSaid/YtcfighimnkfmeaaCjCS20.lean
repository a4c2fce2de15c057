/- In which order the cosets of a standard table are met, plainly; The walk of least; The plain law of CosetTower; Conjugates of subgroups, plainly: the standard table with another base; The plain law of CosetConjugates; The memory of CosetConjugates: the words of the conjugate are laid. -/
import Derived.Test.YtcfighimnkfmeaaCjCS19
namespace Go.Proofs.Ct
/-- the words met when rows below r, and c columns of r, are done -/
def outAt (t : Tb) (r c : Nat) : List W := foldTo (repCol t r) c (foldTo (repRow t) r [[]])
def mAt (t : Tb) (r c : Nat) : Nat := (outAt t r c).length
section
variable {g : Nat} {t : Tb}
theorem outAt_next (h : Full g t) {r : Nat} (hr : r < t.length) : outAt t (r + 1) 0 = outAt t r (2 * g) := by
  show repRow t r (foldTo (repRow t) r [[]]) = _
  show foldTo (repCol t r) (t.row r).length (foldTo (repRow t) r [[]]) = foldTo (repCol t r) (2 * g) (foldTo (repRow t) r [[]])
  rw [h.good.len r hr]
theorem mAt_next (h : Full g t) {r : Nat} (hr : r < t.length) : mAt t (r + 1) 0 = mAt t r (2 * g) := by unfold mAt; rw [outAt_next h hr]
theorem mAt_start (h : Full g t) (hs : std t 0 = some t) {r : Nat} (hr : r ≤ t.length) : (r < t.length → r < mAt t r 0) ∧ mAt t r 0 ≤ t.length := by
  obtain ⟨m, h1, h2, h3⟩ := rep_at h.good (std_iff hs) r hr
  have e : mAt t r 0 = m := h3.ol
  rw [e]
  exact ⟨h1, h3.le⟩
theorem outAt_end (_h : Full g t) : outAt t t.length 0 = reps t := rfl
theorem mAt_end (h : Full g t) (hs : std t 0 = some t) : mAt t t.length 0 = t.length := by
  unfold mAt
  rw [outAt_end h]
  exact reps_len h hs
theorem repCol_pre (t : Tb) (r c : Nat) (out : List W) : out <+: repCol t r c out := by
  unfold repCol
  split
  · exact List.prefix_append _ _
  · exact List.prefix_refl _
theorem colPre (t : Tb) (r : Nat) (out : List W) {c d : Nat} (h : c ≤ d) : foldTo (repCol t r) c out <+: foldTo (repCol t r) d out := by
  induction d with
  | zero => rw [show c = 0 by omega]; exact List.prefix_refl _
  | succ d ih =>
    by_cases e : c = d + 1
    · rw [e]; exact List.prefix_refl _
    · exact (ih (by omega)).trans (repCol_pre t r d _)
theorem rowPre (t : Tb) {r s : Nat} (h : r ≤ s) : foldTo (repRow t) r [[]] <+: foldTo (repRow t) s [[]] := by
  induction s with
  | zero => rw [show r = 0 by omega]; exact List.prefix_refl _
  | succ s ih =>
    by_cases e : r = s + 1
    · rw [e]; exact List.prefix_refl _
    · exact (ih (by omega)).trans (colPre t s _ (Nat.zero_le _))
theorem outAt_pre (h : Full g t) {r c : Nat} (hr : r < t.length) (hc : c ≤ 2 * g) : outAt t r c <+: reps t := by
  refine (colPre t r _ hc).trans ?_
  rw [show foldTo (repCol t r) (2 * g) (foldTo (repRow t) r [[]]) = outAt t r (2 * g) from rfl, ← outAt_next h hr]
  exact rowPre t (show r + 1 ≤ t.length from hr)
theorem outAt_get (h : Full g t) {r c j : Nat} (hr : r < t.length) (hc : c ≤ 2 * g) (hj : j < mAt t r c) : (outAt t r c).getD j [] = (reps t).getD j [] := by
  obtain ⟨l, hl⟩ := outAt_pre h hr hc
  rw [← hl]
  simp [List.getD_eq_getElem?_getD, List.getElem?_append_left hj]
theorem mAt_mono (t : Tb) (r : Nat) {c d : Nat} (h : c ≤ d) : mAt t r c ≤ mAt t r d := (colPre t r _ h).length_le
/-- one column: a coset that is known, or the next one -/
theorem mAt_step (h : Full g t) (hs : std t 0 = some t) {r c : Nat} (hr : r < t.length) (hc : c < 2 * g) : r < mAt t r c ∧ ∃ s : Nat, t.at r c = (s : Int) ∧ s < t.length ∧
    ((s < mAt t r c ∧ mAt t r (c + 1) = mAt t r c) ∨ (s = mAt t r c ∧ mAt t r (c + 1) = mAt t r c + 1 ∧ (reps t).getD s [] = (reps t).getD r [] ++ [letter c])) := by
  have hS := std_iff hs
  obtain ⟨m, h1, h2, h3⟩ := rep_at h.good hS r (by omega)
  have hrm := h1 hr
  obtain ⟨m1, k1, k2⟩ := rep_row h.good hS hr hrm h2 h3 c (by omega)
  obtain ⟨m2, k3, k4⟩ := rep_row h.good hS hr hrm h2 h3 (c + 1) (by omega)
  have e1 : mAt t r c = m1 := k2.ol
  have e2 : mAt t r (c + 1) = m2 := k4.ol
  obtain ⟨s, hsn, he⟩ := h.edge hr hc
  have hat : t.at r c = (s : Int) := he
  have hvis : visit (iota m1) (t.at r c) = iota m2 := by
    have h5 := k4.od
    rw [show visitTo (t.row r) (c + 1) (iota m) = visit (visitTo (t.row r) c (iota m)) (t.at r c) from rfl, k2.od] at h5
    exact h5
  refine ⟨by rw [e1]; omega, s, hat, hsn, ?_⟩
  rw [hat] at hvis
  by_cases hlt : s < m1
  · left
    refine ⟨by rw [e1]; exact hlt, ?_⟩
    have hv : visit (iota m1) (s : Int) = iota m1 := by
      unfold visit
      have : (s : Int) ∈ iota m1 := mem_iota.2 ⟨by omega, by omega⟩
      simp [this]
    rw [hv] at hvis
    have := congrArg List.length hvis
    rw [length_iota, length_iota] at this
    omega
  · right
    have hni : (s : Int) ∉ iota m1 := fun hm => by have := mem_iota.1 hm; omega
    have hv : visit (iota m1) (s : Int) = iota m1 ++ [(s : Int)] := by
      unfold visit
      simp [hni]
    rw [hv] at hvis
    have hl := congrArg List.length hvis
    rw [List.length_append, length_iota, length_iota] at hl
    have hm2 : m2 = m1 + 1 := by simpa using hl.symm
    rw [hm2, iota_succ] at hvis
    have hlast := List.append_cancel_left hvis
    have hsm : s = m1 := by
      have : (s : Int) = (m1 : Int) := by simpa using hlast
      omega
    refine ⟨by rw [e1]; exact hsm, by rw [e1, e2, hm2], ?_⟩
    have hcol : outAt t r (c + 1) = outAt t r c ++ [(outAt t r c).getD r [] ++ [letter c]] := by
      show repCol t r c (outAt t r c) = _
      unfold repCol
      rw [if_pos (by rw [hat, hsm]; show (m1 : Int) = ((outAt t r c).length : Int); rw [← e1]; rfl)]
    have h6 := outAt_get h hr (show c + 1 ≤ 2 * g from hc) (j := s) (by rw [e2, hm2, hsm]; omega)
    rw [← h6, hcol, hsm]
    have h7 : (outAt t r c ++ [(outAt t r c).getD r [] ++ [letter c]]).getD m1 [] = (outAt t r c).getD r [] ++ [letter c] := by
      rw [← e1]
      unfold mAt
      simp [List.getD_eq_getElem?_getD]
    rw [h7, outAt_get h hr (show c ≤ 2 * g by omega) (by rw [e1]; omega)]
end
end Go.Proofs.Ct
namespace Go.Proofs
open Go.RowKit Go.Shelf Go.Proofs.Ct Go.Maps
set_option maxRecDepth 100000 in
set_option maxHeartbeats 8000000 in
theorem least62_any (w : World) (g : Nat) (t : Tb) (vt vr : Value) (hg : g ≤ 3) (hT : Tab w vt t) (hR : Tab w vr (reps t)) (hF : Full g t) (hs : std t 0 = some t) (hn : t.length ≤ 300) :
    Calls Try.prog 62 #[.int .i64 (g : Int), vt, vr] w fun e w' => e = .returned (.bool true) ∧ Below w.heap.size w w' := by
  have hrl := reps_len hF hs
  have hn1 := hF.good.n1
  have hg1 := hF.good.g1
  have hr0 : (reps t).getD 0 [] = [] := by
    have := outAt_get hF (r := 0) (c := 0) (j := 0) hn1 (by omega) (by show 0 < 1; omega)
    rw [← this]; rfl
  have HOK : Hid (∀ j, Fits ((reps t).getD j []) ∧ ((reps t).getD j []).length ≤ 100000) := Lib.hid fun j => ⟨fits_ok (g := g) (by omega) (reps_ok hF j), by
    rcases Nat.lt_or_ge j t.length with hj | hj
    · have := (reps_length hF.good (std_iff hs)).2 j hj; omega
    · rw [List.getD_eq_getElem?_getD, List.getElem?_eq_none (by omega)]; exact Nat.zero_le _⟩
  have HST : Hid (∀ r c, r < t.length → c < 2 * g → r < mAt t r c ∧ ∃ s : Nat, t.at r c = (s : Int) ∧ s < t.length ∧ ((s < mAt t r c ∧ mAt t r (c + 1) = mAt t r c) ∨ (s = mAt t r c ∧ mAt t r (c + 1) = mAt t r c + 1 ∧ (reps t).getD s [] = (reps t).getD r [] ++ [letter c]))) := Lib.hid fun r c hr hc => mAt_step hF hs hr hc
  have HMN : Hid (∀ r, r < t.length → mAt t (r + 1) 0 = mAt t r (2 * g)) := Lib.hid fun r hr => mAt_next hF hr
  have HMS : Hid (∀ r, r ≤ t.length → (r < t.length → r < mAt t r 0) ∧ mAt t r 0 ≤ t.length) := Lib.hid fun r hr => mAt_start hF hs hr
  have HME : Hid (mAt t t.length 0 = t.length) := Lib.hid (mAt_end hF hs)
  have HMO : Hid (∀ r c d, c ≤ d → mAt t r c ≤ mAt t r d) := Lib.hid fun r c d h => mAt_mono t r h
  have HLEN : Hid (∀ r, r < t.length → (t.getD r []).length = 2 * g) := Lib.hid fun r hr => hF.good.len r hr
  have HTT := Lib.hid hT
  have HRR := Lib.hid hR
  obtain ⟨At, ct, rfl⟩ := Tab.form hT
  obtain ⟨Ar, cr, rfl⟩ := Tab.form hR
  obtain ⟨At', ct', et, -, -, htc⟩ := LAt.open_ hT
  obtain ⟨bt, ot, rfl, hrow⟩ := (by obtain ⟨rfl, -, rfl⟩ := Value.slice.inj et; exact htc (by omega) : ∃ b off, At = some ⟨b, off, none⟩ ∧ ∀ k, k < t.length → ∃ u, w.cell? ⟨b, off + k, none⟩ = some u ∧ IntsAt w u (t.getD k []))
  obtain ⟨Ar', cr', er, -, -, hrc⟩ := LAt.open_ hR
  rw [hrl] at er hrc
  obtain ⟨br, or', rfl, hrep⟩ := (by obtain ⟨rfl, -, rfl⟩ := Value.slice.inj er; exact hrc (by omega) : ∃ b off, Ar = some ⟨b, off, none⟩ ∧ ∀ k, k < t.length → ∃ u, w.cell? ⟨b, off + k, none⟩ = some u ∧ IntsAt w u ((reps t).getD k []))
  have HROW : Hid (∀ r, r < t.length → ∃ b o c, ∀ W, Below w.heap.size w W → W.cell? ⟨bt, ot + r, none⟩ = some (.slice (some ⟨b, o, none⟩) (2 * g) c) ∧ ∀ k, k < 2 * g → W.cell? ⟨b, o + k, none⟩ = some (.int .i64 (t.at r k))) := Lib.hid fun r hr => by
    obtain ⟨u, hu, hi⟩ := hrow r hr
    obtain ⟨A, c, rfl, -, -, hc⟩ := hi.open_
    rw [HLEN.out r hr] at hu hc
    obtain ⟨b, o, rfl, hc2⟩ := hc (by omega)
    exact ⟨b, o, c, fun W h => ⟨(h.cell (p := ⟨bt, ot + r, none⟩) (World.block_lt_of_cell? w _ hu)).trans hu, fun k hk => (h.cell (p := ⟨b, o + k, none⟩) (World.block_lt_of_cell? w _ (hc2 k hk))).trans (hc2 k hk)⟩⟩
  have HREP : Hid (∀ r, r < t.length → ∃ A c, ∀ W, Below w.heap.size w W → W.cell? ⟨br, or' + r, none⟩ = some (.slice A ((reps t).getD r []).length c) ∧ IntsAt W (.slice A ((reps t).getD r []).length c) ((reps t).getD r [])) := Lib.hid fun r hr => by
    obtain ⟨u, hu, hi⟩ := hrep r hr
    obtain ⟨A, c, rfl, -, -, -⟩ := hi.open_
    exact ⟨A, c, fun W h => ⟨(h.cell (p := ⟨br, or' + r, none⟩) (World.block_lt_of_cell? w _ hu)).trans hu, hi.below h⟩⟩
  have hg3 : (g : Int) ≤ 3 := by omega
  have hg0 : 1 ≤ (g : Int) := by omega
  have hn2 : (t.length : Int) ≤ 300 := by omega
  have hn3 : 1 ≤ (t.length : Int) := by omega
  have HRL := Lib.hid hrl
  rw [hrl]
  obtain ⟨w1, w2, hm1, hm2, hLS⟩ := LS.start hr0 w t.length (by omega)
  have HM1 := Lib.hid hm1
  have HM2 := Lib.hid hm2
  have HNN := Lib.hid (show 1 ≤ t.length ∧ t.length ≤ 300 by omega)
  have hkc : w2.cell? ⟨w.heap.size + 1, 0, none⟩ = some (.bool false) := hLS.known_at (s := 0) (by omega)
  have hkf := frozen_row hLS.known 0
  have hsz : (w2.setCell ⟨w.heap.size + 1, 0, none⟩ (.bool true)).heap.size = w2.heap.size := by simp [World.setCell]
  have hL2 := hLS.know.newlay 0
  rw [hsz] at hL2
  have HL2 := Lib.hid hL2
  clear hL2 hsz hLS
  clear hrl hr0 hT hR hF hs hrow hrep htc hrc et er hm1 hm2
  generalize hkb : w.heap.size + 1 = kb at *
  generalize hbb : w.heap.size = bb at *
  go_enter Try.func62, Try.ntmps62
  go_wp2_with (first
    | ((with_reducible refine wpList_sel 17 ?_); refine wpList_val rfl (r_make 31 (.tmp 16) (.tmp 16) rfl rfl rfl HM1.out) ?_)
    | ((with_reducible refine wpList_sel 20 ?_); refine wpList_val rfl (r_make 138 (.tmp 19) (.tmp 19) rfl rfl rfl HM2.out) ?_))
  go_loopw [9] (fun vl wr => ∃ a b : Nat, Hid (a ≤ t.length ∧ b = mAt t a 0) ∧ ∃ A c, vl = .slice A (b - a) c ∧ Hid (LS (reps t) t.length w kb bb b b vl (.slice none 0 0) (iotaR a b) [] wr)) (fun vl wr => t.length - firstOf t.length vl wr)
  case atStart => exact ⟨0, 1, Lib.hid ⟨Nat.zero_le _, rfl⟩, _, _, rfl, HL2⟩
  case round =>
    clear HL2 HM1 HM2 hkc hkf
    obtain ⟨a, b, HAB, Al, cl, rfl, HLa⟩ := hrel
    obtain ⟨ha, hb⟩ := HAB.out
    have hbn : b ≤ t.length := by rw [hb]; exact (HMS.out a ha).2
    by_cases hab : a < b
    · have han : a < t.length := by omega
      have hfa : firstOf t.length (.slice Al (b - a) cl) wr = a := firstOf_own HLa.out.lay (by rw [length_iotaR]; omega) (by rw [iotaR_get (by omega)]; simp)
      obtain ⟨gl, cl', el, hcl⟩ := own_cells HLa.out.lay (k := 0) (by rw [length_iotaR]; omega)
      rw [length_iotaR] at el hcl
      obtain ⟨rfl, -, rfl⟩ := Value.slice.inj el
      have HFA := Lib.hid hfa
      have hla : 0 < ((b - a : Nat) : Int) := by omega
      have hnp : 0 < b - a := by omega
      have hlb : ((b - a : Nat) : Int) ≤ 300 := by omega
      have HB0 : Hid (mAt t a 0 = b) := Lib.hid hb.symm
      have HABN := Lib.hid (show a < b ∧ b ≤ t.length by omega)
      clear hfa hcl el ha hb hbn hab HAB
      generalize hnl : b - a = nl at *
      have HNL := Lib.hid hnl
      clear hnl
      go_wp2_with fail
      go_loopw [10, 11] (fun vn i wr => ∃ k : Nat, i = .int .i64 (k : Int) ∧ k ≤ nl ∧ ∃ A c, vn = .slice A (mAt t (a + k) 0 - b) c ∧ Hid (b ≤ mAt t (a + k) 0) ∧ Hid (LS (reps t) t.length w kb bb (mAt t (a + k) 0) (mAt t (a + k) 0) (.slice (some ⟨gl, 0, none⟩) nl cl) vn (iotaR a b) (iotaR b (mAt t (a + k) 0)) wr)) (fun _ i _ => nl - (intOf i).toNat)
      case atStart => exact ⟨0, rfl, by omega, none, 0, by rw [Nat.add_zero, HB0.out, Nat.sub_self], Lib.hid (by rw [Nat.add_zero, HB0.out]; exact Nat.le_refl _), Lib.hid (by rw [Nat.add_zero, HB0.out, iotaR_self]; exact HLa.out)⟩
      case round =>
        obtain ⟨k, rfl, hk, An, cn, rfl, HBM, HLk⟩ := hrel
        have hk0 : (0 : Int) ≤ (k : Int) := Int.natCast_nonneg _
        by_cases hlt : k < nl
        · have hlt' : (k : Int) < (nl : Int) := by omega
          obtain ⟨r, hr⟩ : ∃ r, r = a + k := ⟨_, rfl⟩
          have hrn : r < t.length := by have := HABN.out; have := HNL.out; omega
          rw [← hr] at HBM HLk
          obtain ⟨b7, o7, c7, hrow⟩ := HROW.out r hrn
          have HRW := Lib.hid hrow
          have HR := Lib.hid hr
          have HRN := Lib.hid hrn
          have hrn' : (r : Int) < (t.length : Int) := by omega
          have hr0 : (0 : Int) ≤ (r : Int) := Int.natCast_nonneg _
          clear hrow hr hrn
          go_wp2_with fail
          go_loopw [10, 12] (fun vn i wr => ∃ c : Nat, i = .int .i64 (c : Int) ∧ c ≤ 2 * g ∧ ∃ A q, vn = .slice A (mAt t r c - b) q ∧ Hid (b ≤ mAt t r c) ∧ Hid (LS (reps t) t.length w kb bb (mAt t r c) (mAt t r c) (.slice (some ⟨gl, 0, none⟩) nl cl) vn (iotaR a b) (iotaR b (mAt t r c)) wr)) (fun _ i _ => 2 * g - (intOf i).toNat)
          case atStart => exact ⟨0, rfl, by omega, An, cn, by rw [HR.out], HBM, Lib.hid (by have h := HLk.out; rw [HR.out] at h ⊢; exact h)⟩
          case round =>
            obtain ⟨c, rfl, hc, Am, cm, rfl, HBc, HLc⟩ := hrel
            have hc0 : (0 : Int) ≤ (c : Int) := Int.natCast_nonneg _
            by_cases hcl : c < 2 * g
            · obtain ⟨hrm, s, hs1, hs2, hs3⟩ := HST.out r c HRN.out hcl
              have hcl1 : (c : Int) < 2 * (g : Int) := by omega
              have HBw : Hid (Below bb w wr) := Lib.hid (by rw [← hbb]; exact HLc.out.below)
              obtain ⟨x1, x2⟩ := HRW.out _ HBw.out
              have x3 := x2 c hcl
              rw [hs1] at x3
              have hs0 : (0 : Int) ≤ (s : Int) := Int.natCast_nonneg _
              have hsn : (s : Int) < (t.length : Int) := by omega
              have x4 := lay_at HLc.out.lay (k := k) (by have := HNL.out; omega)
              rw [← HR.out] at x4
              have x5 := HLc.out.known_at hs2
              have hcg : (c : Int) < ((2 * g : Nat) : Int) := by omega
              rcases hs3 with ⟨hs3, hs4⟩ | ⟨hs3, hs4, hs5⟩
              · rw [decide_eq_true hs3] at x5
                have HM4 := Lib.hid hs4
                clear hs1 hs2 hs3 hs4 x2
                go_wp2_with fail
                go_roundw
                case rel => exact ⟨c + 1, by go_num, by omega, Am, cm, by rw [HM4.out], by rw [HM4.out]; exact HBc, by rw [HM4.out]; exact HLc⟩
                case measure => simp [intOf]; omega
              · rw [decide_eq_false (by omega)] at x5
                have hkn : t.length ≤ 100000 := by omega
                obtain ⟨Ab, cb, A1, c1, w3, A2, c2, w4, A3, c3, w6, u, p1, p2, p3, p4, p5, p6, p7, p8⟩ := push_fits HLc.out hrm hs3 hs2 hkn hs5 HOK.out (by rw [length_iotaR]; have := HLc.out.nxt; omega)
                rw [length_iotaR] at p6 p7
                have x6 := lay_at (HLc.out.know.move ((Below.refl _ _).alloc (Nat.le_refl _) (.cells #[] 3))).lay (k := k) (by have := HNL.out; omega)
                rw [← HR.out, ← hs3] at x6
                have x7 := frozen_row HLc.out.known s
                rw [show (wr.setCell ⟨kb, s, none⟩ (.bool true)).heap.size = wr.heap.size by simp [World.setCell]] at p2
                rw [show (w4.setCell ⟨bb, s, none⟩ (.slice A2 (((reps t).getD r []).length + 1) c2)).heap.size = w4.heap.size by simp [World.setCell]] at p6
                have HP2 := Lib.hid p2
                have HP3 := Lib.hid p3
                have HP6 := Lib.hid p6
                have HP7 := Lib.hid (show LS (reps t) t.length w kb bb (mAt t r (c + 1)) (mAt t r (c + 1)) (.slice (some ⟨gl, 0, none⟩) nl cl) (.slice A3 (mAt t r c - b + 1) c3) (iotaR a b) (iotaR b (mAt t r (c + 1))) w6 by
                  rw [hs4, iotaR_snoc HBc.out, ← hs3]
                  rw [← hs3] at p7
                  exact p7)
                have HM4 := Lib.hid (show mAt t r (c + 1) - b = mAt t r c - b + 1 by have := HBc.out; omega)
                have HBc2 : Hid (b ≤ mAt t r (c + 1)) := Lib.hid (by have := HBc.out; omega)
                have HLT : Hid (∀ W, Calls Try.prog 61 #[.int .i64 (c : Int)] W fun e w' => e = .returned (.int .i64 (letter c)) ∧ w' = W) := Lib.hid fun W => letter61_any W c (by omega)
                clear hs1 hs2 hs3 hs4 hs5 x2 p2 p3 p6 p7 p8 hkn hrm
                generalize letter c = lc at *
                generalize (reps t).getD r [] = ws at *
                generalize hq : mAt t r c = q at *
                go_wp2_with (first
                  | ((with_reducible refine wpList_sel 67 ?_); refine wpList_val rfl (r_bs25_0 rfl) ?_)
                  | ((with_reducible refine wpList_sel 75 ?_); refine wpList_val rfl (r_app (.tmp 67) (.tmp 74) 25 rfl rfl rfl HP2.out) ?_)
                  | (go_at_call 61; (refine (HLT.out _).mono ?_); rintro e wq ⟨rfl, rfl⟩)
                  | ((with_reducible refine wpList_sel 79 ?_); refine wpList_val rfl (r_app (.tmp 75) (.tmp 78) 25 rfl rfl rfl HP3.out) ?_)
                  | ((with_reducible refine wpList_sel 84 ?_); refine wpList_val rfl (r_app (.tmp 81) (.tmp 83) 24 rfl rfl rfl HP6.out) ?_))
                go_roundw
                case rel => exact ⟨c + 1, by go_num, by omega, A3, c3, by rw [HM4.out], HBc2, HP7⟩
                case measure => simp [intOf]; omega
            · obtain rfl : c = 2 * g := by omega
              have hcl1 : ((2 * g : Nat) : Int) = 2 * (g : Int) := by omega
              have HM5 := Lib.hid (HMN.out r HRN.out)
              go_wp2_with fail
              go_roundw
              case rel => exact ⟨k + 1, by go_num, by omega, Am, cm, by rw [← Nat.add_assoc, ← HR.out, HM5.out], by rw [← Nat.add_assoc, ← HR.out, HM5.out]; exact HBc, by rw [← Nat.add_assoc, ← HR.out, HM5.out]; exact HLc⟩
              case measure => simp [intOf]; omega
        · obtain rfl : k = nl := by omega
          have hak : a + k = b := by have := HABN.out; have := HNL.out; omega
          have hfn : b ≤ firstOf t.length (.slice An (mAt t (a + k) 0 - b) cn) wr := by
            rcases Nat.lt_or_ge b (mAt t (a + k) 0) with h | h
            · rw [firstOf_own (a := b) HLk.out.nxt (by rw [length_iotaR]; omega) (by rw [iotaR_get (by omega)]; simp)]
              exact Nat.le_refl _
            · rw [show mAt t (a + k) 0 - b = 0 by omega, firstOf_nil]
              exact HABN.out.2
          have HFN := Lib.hid hfn
          have HL9 := Lib.hid HLk.out.turn
          have HAK := Lib.hid hak
          clear hfn hak
          go_wp2_with fail
          go_roundw
          case rel => exact ⟨b, mAt t (a + k) 0, Lib.hid ⟨HABN.out.2, by rw [HAK.out]⟩, An, cn, rfl, HL9⟩
          case measure =>
            have h1 := HFA.out
            have h2 := HFN.out
            have h3 := HABN.out
            rw [h1]
            omega
    · have hba : b = a := by
        rcases Nat.lt_or_ge a t.length with h | h
        · have := (HMS.out a ha).1 h; omega
        · have e : a = t.length := by omega
          rw [hb, e]; exact HME.out
      have han : a = t.length := by
        rcases Nat.lt_or_ge a t.length with h | h
        · have := (HMS.out a ha).1 h; omega
        · omega
      have HLb := Lib.hid (show LS (reps t) t.length w kb bb t.length t.length (.slice Al (b - a) cl) (.slice none 0 0) (iotaR a b) [] wr by
        have h := HLa.out
        rw [hba, han] at h ⊢
        exact h)
      generalize hnl : b - a = nl at *
      obtain rfl : nl = 0 := by omega
      clear hba han hnl hb hbn hab HAB ha HLa
      go_wp2_with fail
      have HWB : Hid (Below w.heap.size w wr) := Lib.hid HLb.out.below
      have HLn : Hid (∀ W, Below wr.heap.size wr W → ∀ k, k < t.length → W.cell? ⟨kb, k, none⟩ = some (.bool true) ∧ ∃ A c, ∀ V, Below W.heap.size W V → V.cell? ⟨bb, k, none⟩ = some (.slice A ((reps t).getD k []).length c) ∧ IntsAt V (.slice A ((reps t).getD k []).length c) ((reps t).getD k [])) := Lib.hid fun W h k hk => by
        have hM := HLb.out.move h
        refine ⟨by have h2 := hM.known_at hk; rwa [decide_eq_true hk] at h2, ?_⟩
        obtain ⟨A, c, h3, h4⟩ := hM.best_at hk
        exact ⟨A, c, fun V hV => ⟨(hV.cell (p := ⟨bb, k, none⟩) (World.block_lt_of_cell? W _ h3)).trans h3, h4.below hV⟩⟩
      go_loopw [14] (fun i wr2 => ∃ k : Nat, i = .int .i64 (k : Int) ∧ k ≤ t.length ∧ Hid (Below wr.heap.size wr wr2)) (fun i _ => t.length - (intOf i).toNat)
      case atStart => exact ⟨0, rfl, by omega, Lib.hid (Below.refl _ _)⟩
      case round =>
        obtain ⟨k, rfl, hk, HBk⟩ := hrel
        have hk0 : (0 : Int) ≤ (k : Int) := Int.natCast_nonneg _
        by_cases hlt : k < t.length
        · have hlt' : (k : Int) < (t.length : Int) := by omega
          obtain ⟨y1, Ab, cb, y2⟩ := HLn.out wr HBk.out k hlt
          obtain ⟨Ap, cp, y3⟩ := HREP.out k hlt
          have HY1 := Lib.hid y1
          have HY2 := Lib.hid y2
          have HY3 : Hid (∀ W, Below wr.heap.size wr W → W.cell? ⟨br, or' + k, none⟩ = some (.slice Ap ((reps t).getD k []).length cp) ∧ IntsAt W (.slice Ap ((reps t).getD k []).length cp) ((reps t).getD k [])) := Lib.hid fun W h => y3 W (by rw [← hbb]; exact bl3 HWB.out (bl3 HBk.out h))
          have HLT := Lib.hid hlt
          clear y1 y2 y3
          generalize (reps t).getD k [] = ws at *
          go_wp2_with fail
          refine (wpIn_wide (n := 3)).1 ?_
          refine wpIn_region_own (by kernel_rfl) 19 rfl (fun i => ([some 92, some 93, some 94, some 95, some 96, some 97, some 98, some 99, some 100, some 101, some 102, some 103, some 104, some 105, some 106, some 107, some 108, some 109, some 110] : List (Option Nat)).getD i none) (lex_of (by kernel_rfl)) wr.heap.size (fun i => ([] : List Nat).contains i) (fun i j => (([[], [], [0, 1], [2], [3], [4], [5], [5], [6, 7, 5], [8, 5], [9, 5], [5], [5], [11, 12, 5], [13, 5], [14, 5], [10, 15, 5], [16, 5], [5, 17]] : List (List Nat)).getD i []).contains j) (fun W => Below wr.heap.size wr W) (fun j v O W => (([.eq (.slice (some ⟨kb, 0, none⟩) t.length t.length), .eq (.int .i64 (k : Int)), .eq (.pointer (some ⟨kb, k, none⟩)), .eq (.bool true), .eq (.bool false), .eq (.bool false), .eq (.slice (some ⟨bb, 0, none⟩) t.length t.length), .eq (.int .i64 (k : Int)), .eq (.pointer (some ⟨bb, k, none⟩)), .eq (.slice Ab ws.length cb), .tab [ws], .eq (.slice (some ⟨br, or', none⟩) t.length cr), .eq (.int .i64 (k : Int)), .eq (.pointer (some ⟨br, or' + k, none⟩)), .eq (.slice Ap ws.length cp), .tab [ws], .eq (.bool true), .eq (.bool false), .eq (.bool false)] : List FP).getD j FP.any).holds wr.heap.size v O W) (by kernel_rfl) (by kernel_rfl) (dm_inj (by kernel_rfl)) (fun j v O W W' _ _ h hs h1 h2 => FP.keep rfl h1 h2 hs h) (dm_lt (n := 111) (by kernel_rfl)) (Nat.le_refl _) (Below.refl _ _).drew ?_ ?_
          · intro O ls q o a w2 hq ho hS hbw hls hP hpre hdj
            have hcases : q = 0 ∨ q = 1 ∨ q = 2 ∨ q = 3 ∨ q = 4 ∨ q = 5 ∨ q = 6 ∨ q = 7 ∨ q = 8 ∨ q = 9 ∨ q = 10 ∨ q = 11 ∨ q = 12 ∨ q = 13 ∨ q = 14 ∨ q = 15 ∨ q = 16 ∨ q = 17 ∨ q = 18 := by
              have : q < 19 := hq
              omega
            rcases hcases with rfl | rfl | rfl | rfl | rfl | rfl | rfl | rfl | rfl | rfl | rfl | rfl | rfl | rfl | rfl | rfl | rfl | rfl | rfl
            · obtain rfl := Option.some.inj ho
              exact wpOpIn_of rfl rfl (wpW_val (r_move (.tmp 8) rfl (hP.out 8 (dm_out (by kernel_rfl)))) ⟨_, _, rfl, hS, (fun h => by simp at h), Step.same, rfl⟩)
            · obtain rfl := Option.some.inj ho
              exact wpOpIn_of rfl rfl (wpW_val (r_move (.tmp 14) rfl (hP.out 14 (dm_out (by kernel_rfl)))) ⟨_, _, rfl, hS, (fun h => by simp at h), Step.same, rfl⟩)
            · obtain rfl := Option.some.inj ho
              exact wpOpIn_of rfl rfl (wpW_val (r_idx (.tmp 92) (.tmp 93) _ _ rfl (hpre 0 (by decide) rfl).1 (hpre 1 (by decide) rfl).1 (idx_sl Try.underlying138 size4 kb t.length t.length k HLT.out _)) ⟨_, _, rfl, hS, (fun h => by simp at h), Step.same, rfl⟩)
            · obtain rfl := Option.some.inj ho
              exact wpOpIn_of rfl rfl (wpW_val (r_load1 4 agg4 (.tmp 94) ⟨kb, k, none⟩ rfl (hpre 2 (by decide) rfl).1 ((hS.cell (p := ⟨kb, k, none⟩) (World.block_lt_of_cell? wr _ HY1.out)).trans HY1.out)) ⟨_, _, rfl, hS, (fun h => by simp at h), Step.same, rfl⟩)
            · obtain rfl := Option.some.inj ho
              exact wpOpIn_of rfl rfl (wpW_val (r_not (.tmp 95) true rfl (hpre 3 (by decide) rfl).1) ⟨_, _, rfl, hS, (fun h => by simp at h), Step.same, rfl⟩)
            · obtain rfl := Option.some.inj ho
              exact wpOpIn_of rfl rfl (wpW_val (r_move (.tmp 96) rfl (hpre 4 (by decide) rfl).1) ⟨_, _, rfl, hS, (fun h => by simp at h), Step.same, rfl⟩)
            · obtain rfl := Option.some.inj ho
              exact wpOpIn_yes rfl rfl (yielded_of (g := 5) (t := 97) (b := false) rfl rfl (by rw [hP.size]; show 97 < 111; decide) (hpre 5 (by decide) rfl).1) (wpW_val (r_move (.tmp 7) rfl (hP.out 7 (dm_out (by kernel_rfl)))) ⟨_, _, rfl, hS, (fun h => by simp at h), Step.same, rfl⟩)
            · obtain rfl := Option.some.inj ho
              exact wpOpIn_yes rfl rfl (yielded_of (g := 5) (t := 97) (b := false) rfl rfl (by rw [hP.size]; show 97 < 111; decide) (hpre 5 (by decide) rfl).1) (wpW_val (r_move (.tmp 14) rfl (hP.out 14 (dm_out (by kernel_rfl)))) ⟨_, _, rfl, hS, (fun h => by simp at h), Step.same, rfl⟩)
            · obtain rfl := Option.some.inj ho
              exact wpOpIn_yes rfl rfl (yielded_of (g := 5) (t := 97) (b := false) rfl rfl (by rw [hP.size]; show 97 < 111; decide) (hpre 5 (by decide) rfl).1) (wpW_val (r_idx (.tmp 98) (.tmp 99) _ _ rfl (hpre 6 (by decide) rfl).1 (hpre 7 (by decide) rfl).1 (idx_sl Try.underlying31 size25 bb t.length t.length k HLT.out _)) ⟨_, _, rfl, hS, (fun h => by simp at h), Step.same, rfl⟩)
            · obtain rfl := Option.some.inj ho
              exact wpOpIn_yes rfl rfl (yielded_of (g := 5) (t := 97) (b := false) rfl rfl (by rw [hP.size]; show 97 < 111; decide) (hpre 5 (by decide) rfl).1) (wpW_val (r_load1 25 agg25 (.tmp 100) ⟨bb, k, none⟩ rfl (hpre 8 (by decide) rfl).1 (HY2.out _ hS).1) ⟨_, _, rfl, hS, (fun h => by simp at h), Step.same, rfl⟩)
            · obtain rfl := Option.some.inj ho
              have hal : Below w2.heap.size w2 (w2.alloc (.cells #[.slice Ab ws.length cb] 24)) := (Below.refl _ _).alloc (Nat.le_refl _) _
              have i7 := (IntsF.of_at (HY2.out _ (Below.refl _ _)).2).keep fun q hq => hS.block q hq
              exact wpOpIn_yes rfl rfl (yielded_of (g := 5) (t := 97) (b := false) rfl rfl (by rw [hP.size]; show 97 < 111; decide) (hpre 5 (by decide) rfl).1) (wpW_val (r_bs23_1 (.tmp 101) Ab ws.length cb rfl (hpre 9 (by decide) rfl).1) ⟨_, _, rfl, hS.trans (hal.mono hS.size), (fun h => by simp at h), Step.below hal, _, _, rfl, tab_one_new24 i7 (fun q hq => ⟨.inl hq, Nat.lt_of_lt_of_le hq hbw⟩) (.inr (Mx.fresh (Nat.le_refl _) (by simp)))⟩)
            · obtain rfl := Option.some.inj ho
              exact wpOpIn_yes rfl rfl (yielded_of (g := 5) (t := 97) (b := false) rfl rfl (by rw [hP.size]; show 97 < 111; decide) (hpre 5 (by decide) rfl).1) (wpW_val (r_move (.tmp 2) rfl (hP.out 2 (dm_out (by kernel_rfl)))) ⟨_, _, rfl, hS, (fun h => by simp at h), Step.same, rfl⟩)
            · obtain rfl := Option.some.inj ho
              exact wpOpIn_yes rfl rfl (yielded_of (g := 5) (t := 97) (b := false) rfl rfl (by rw [hP.size]; show 97 < 111; decide) (hpre 5 (by decide) rfl).1) (wpW_val (r_move (.tmp 14) rfl (hP.out 14 (dm_out (by kernel_rfl)))) ⟨_, _, rfl, hS, (fun h => by simp at h), Step.same, rfl⟩)
            · obtain rfl := Option.some.inj ho
              exact wpOpIn_yes rfl rfl (yielded_of (g := 5) (t := 97) (b := false) rfl rfl (by rw [hP.size]; show 97 < 111; decide) (hpre 5 (by decide) rfl).1) (wpW_val (r_idx (.tmp 103) (.tmp 104) _ _ rfl (hpre 11 (by decide) rfl).1 (hpre 12 (by decide) rfl).1 (idx_offs Try.underlying31 size25 br or' t.length cr k HLT.out _)) ⟨_, _, rfl, hS, (fun h => by simp at h), Step.same, rfl⟩)
            · obtain rfl := Option.some.inj ho
              exact wpOpIn_yes rfl rfl (yielded_of (g := 5) (t := 97) (b := false) rfl rfl (by rw [hP.size]; show 97 < 111; decide) (hpre 5 (by decide) rfl).1) (wpW_val (r_load1 25 agg25 (.tmp 105) ⟨br, or' + k, none⟩ rfl (hpre 13 (by decide) rfl).1 (HY3.out _ hS).1) ⟨_, _, rfl, hS, (fun h => by simp at h), Step.same, rfl⟩)
            · obtain rfl := Option.some.inj ho
              have hal : Below w2.heap.size w2 (w2.alloc (.cells #[.slice Ap ws.length cp] 24)) := (Below.refl _ _).alloc (Nat.le_refl _) _
              have i7 := (IntsF.of_at (HY3.out _ (Below.refl _ _)).2).keep fun q hq => hS.block q hq
              exact wpOpIn_yes rfl rfl (yielded_of (g := 5) (t := 97) (b := false) rfl rfl (by rw [hP.size]; show 97 < 111; decide) (hpre 5 (by decide) rfl).1) (wpW_val (r_bs23_1 (.tmp 106) Ap ws.length cp rfl (hpre 14 (by decide) rfl).1) ⟨_, _, rfl, hS.trans (hal.mono hS.size), (fun h => by simp at h), Step.below hal, _, _, rfl, tab_one_new24 i7 (fun q hq => ⟨.inl hq, Nat.lt_of_lt_of_le hq hbw⟩) (.inr (Mx.fresh (Nat.le_refl _) (by simp)))⟩)
            · obtain rfl := Option.some.inj ho
              obtain ⟨A1, q1, e1, t1⟩ := (hpre 10 (by decide) rfl).1
              obtain ⟨A2, q2, e2, t2⟩ := (hpre 15 (by decide) rfl).1
              exact wpOpIn_yes rfl rfl (yielded_of (g := 5) (t := 97) (b := false) rfl rfl (by rw [hP.size]; show 97 < 111; decide) (hpre 5 (by decide) rfl).1) (wpW_call (R := fun v w' => v = .bool true ∧ Below w2.heap.size w2 w') (r_call2 (.tmp 102) (.tmp 107) _ _ _ rfl e1 e2 call34) ((sameS w2 _ _ [ws] t1.tab t2.tab).mono fun e w' ⟨he, hb⟩ => ⟨_, he, rfl, hb⟩)
                (fun v w'' ⟨hv, hb⟩ => ⟨v, _, rfl, hS.trans (hb.mono hS.size), (fun h => by simp at h), Step.below hb, hv⟩))
            · obtain rfl := Option.some.inj ho
              exact wpOpIn_yes rfl rfl (yielded_of (g := 5) (t := 97) (b := false) rfl rfl (by rw [hP.size]; show 97 < 111; decide) (hpre 5 (by decide) rfl).1) (wpW_val (r_not (.tmp 108) true rfl (hpre 16 (by decide) rfl).1) ⟨_, _, rfl, hS, (fun h => by simp at h), Step.same, rfl⟩)
            · obtain rfl := Option.some.inj ho
              exact wpOpIn_of rfl rfl (wpW_val (r_pick (.tmp 97) (.const (.bool true)) (.tmp 109) false rfl (hpre 5 (by decide) rfl).1 (by exact (hpre 17 (by decide) rfl).1)) ⟨_, _, rfl, hS, (fun h => by simp at h), Step.same, rfl⟩)
          · intro O ls a w2 hall hS hbw hP hsl
            obtain ⟨vs, hvs, hfr⟩ := hP.frame 111 rfl
            have e110 : a.tmps.getD 110 undef = .bool false := (hsl 18 (by decide) (.inl rfl)).1
            rw [← hvs] at e110
            have HRN := Lib.hid hS
            clear hsl hP hall hS hvs hbw
            subst hfr
            dsimp only
            simp only [List.range, List.range.loop, List.map_cons, List.map_nil, List.any_cons, List.any_nil, Nat.reduceBEq, Option.some_beq_some, Bool.or_false, Bool.false_or, Bool.false_eq_true, if_true, if_false, List.getD_cons_zero, List.getD_cons_succ, e110]
            have HBk2 := Lib.hid (bl3 HBk.out HRN.out)
            go_wp2_with fail
            go_roundw
            case rel => exact ⟨k + 1, by go_num, by omega, HBk2⟩
            case measure => simp [intOf]; omega
        · obtain rfl : k = t.length := by omega
          go_wp2_with fail
          go_ret
          exact ⟨rfl, by rw [← hbb]; exact bl3 HWB.out HBk.out⟩
end Go.Proofs
namespace Go.Proofs
open Go.RowKit Go.Shelf Go.Proofs.Ct Go.Maps
section
variable {g : Nat} {rels sub : List W} {t u : Tb}
theorem repsE_full (h : Full g t) (hs : std t 0 = some t) : repsE g t = (reps t, 0) := by
  unfold repsE
  rw [check_of_good h.good, if_neg (by simp), if_pos hs]
end
end Go.Proofs
namespace Go.Proofs.Ct
def conj (r : W) (l : List W) : List W := l.map fun w => inv r ++ w ++ r
theorem length_conj (r : W) (l : List W) : (conj r l).length = l.length := by simp [conj]
theorem conj_getD {r : W} {l : List W} {j : Nat} (h : j < l.length) : (conj r l).getD j [] = inv r ++ l.getD j [] ++ r := by
  unfold conj
  simp [List.getD_eq_getElem?_getD, h]
section
variable {g : Nat} {rels sub : List W} {t u : Tb}
theorem LOk.app {a b : W} (ha : LOk g a) (hb : LOk g b) : LOk g (a ++ b) := fun x hx => (List.mem_append.1 hx).elim (ha x) (hb x)
theorem conj_ok {r : W} (hr : LOk g r) {l : List W} (hl : ∀ j, j < l.length → LOk g (l.getD j [])) : ∀ j, j < (conj r l).length → LOk g ((conj r l).getD j []) := fun j hj => by
  rw [length_conj] at hj
  rw [conj_getD hj]
  exact (hr.inv.app (hl j hj)).app hr
theorem Full.way_inv (h : Full g t) : ∀ {w : W} {x y : Nat}, LOk g w → x < t.length → Way t x w y → Way t y (Ct.inv w) x := by
  intro w
  induction w with
  | nil => intro x y _ _ h; exact Eq.symm h
  | cons l w ih =>
    rintro x y hw hx ⟨z, h1, h2⟩
    rw [inv_cons]
    refine way_app.2 ⟨z, ih hw.cons.2 (h.good.elt hx (col_ltL hw.cons.1) h1) h2, way_one.2 ?_⟩
    rw [col_inv hw.cons.1.2.2]
    exact h.good.eback hx (col_ltL hw.cons.1) h1
/-- what the standard table with the base b is -/
structure Conj (g : Nat) (rels sub : List W) (t : Tb) (b : Nat) (s : Tb) : Prop where
  full : Full g s
  of : std t (b : Int) = some s
  std : std s 0 = some s
  rel : ∀ i, i < s.length → ∀ j, j < rels.length → Way s i (rels.getD j []) i
  subc : ∀ j, j < (conj ((reps t).getD b []) sub).length → Way s 0 ((conj ((reps t).getD b []) sub).getD j []) 0
  eq : ∀ u, Coset g rels (conj ((reps t).getD b []) sub) u → u = s
theorem conj_law (hr : ∀ j, j < rels.length → LOk g (rels.getD j [])) (hs : ∀ j, j < sub.length → LOk g (sub.getD j [])) (ht : Coset g rels sub t) {b : Nat} (hb : b < t.length) : Conj g rels sub t b (stdT t b) := by
  have hS := ht.full.std_of hb
  have hn0 := ht.full.good.n1
  have hrw := reps_way ht.full ht.std b hb
  have hro := reps_ok ht.full b
  obtain ⟨φ, hφ, h0φ, hφi⟩ := hS.there
  obtain ⟨ψ, hψ, h0ψ, -⟩ := hS.back
  have hback : ∀ x, x < (stdT t b).length → φ (ψ x) = x := fun x hx => by
    have h1 : Hm g (stdT t b) (stdT t b) (fun x => φ (ψ x)) := hψ.comp hφ
    exact Hm.unique hS.full h1 Hm.id (by show φ (ψ 0) = 0; rw [h0ψ, h0φ]) x hx
  have hsub : ∀ j, j < sub.length → Way (stdT t b) 0 (Ct.inv ((reps t).getD b []) ++ sub.getD j [] ++ (reps t).getD b []) 0 := fun j hj => by
    have h1 : Way t b (Ct.inv ((reps t).getD b []) ++ sub.getD j [] ++ (reps t).getD b []) b := way_app.2 ⟨0, way_app.2 ⟨0, ht.full.way_inv hro hn0 hrw, ht.subc j hj⟩, hrw⟩
    have h2 := hφ.way ht.full.good ((hro.inv.app (hs j hj)).app hro) hb h1
    rwa [h0φ] at h2
  refine ⟨hS.full, hS.is, hS.std, fun i hi j hj => ?_, fun j hj => ?_, fun u hu => ?_⟩
  · have h1 := hφ.way ht.full.good (hr j hj) (hψ.lt i hi) (ht.rel (ψ i) (hψ.lt i hi) j hj)
    rwa [hback i hi] at h1
  · rw [length_conj] at hj
    rw [conj_getD hj]
    exact hsub j hj
  · have hun := hu.full.good.n1
    have hco := conj_ok hro hs
    -- u maps onto the standard table
    obtain ⟨α, hα, h0α⟩ := hu.mapTo hr hco hS.full (fun i hi j hj => by
      have h1 := hφ.way ht.full.good (hr j hj) (hψ.lt i hi) (ht.rel (ψ i) (hψ.lt i hi) j hj)
      rwa [hback i hi] at h1) (b := 0) hS.full.good.n1 (fun j hj => by
      rw [length_conj] at hj
      rw [conj_getD hj]
      exact hsub j hj)
    -- and the standard table onto u
    obtain ⟨q, hq⟩ : ∃ q, q = actW (nx u) 0 (Ct.inv ((reps t).getD b [])) := ⟨_, rfl⟩
    obtain ⟨q1, q2⟩ := hu.full.way hro.inv hun
    rw [← hq] at q1 q2
    have q3 := hu.full.way_inv hro.inv hun q2
    rw [Ct.inv_inv] at q3
    obtain ⟨β, hβ, h0β⟩ := ht.mapTo hr hs hu.full hu.rel (b := q) q1 (fun j hj => by
      have h1 := hu.subc j (by rw [length_conj]; exact hj)
      rw [conj_getD hj] at h1
      obtain ⟨y, h2, h3⟩ := way_app.1 h1
      obtain ⟨z, h4, h5⟩ := way_app.1 h2
      have e1 : z = q := way_fun h4 q2
      subst e1
      have hy : y < u.length := by
        have h8 := hu.full.way (hs j hj) q1
        rw [way_fun h5 h8.2]; exact h8.1
      have h6 := hu.full.way_inv hro hy h3
      have e2 : y = z := way_fun h6 q2
      rw [e2] at h5
      exact h5)
    have hβb : β b = 0 := by
      have h1 := hβ.way ht.full.good hro hn0 hrw
      rw [h0β] at h1
      exact way_fun h1 q3
    have hγ := hψ.comp hβ
    have hγ0 : (fun x => β (ψ x)) 0 = 0 := by show β (ψ 0) = 0; rw [h0ψ, hβb]
    obtain ⟨k1, e1⟩ := hα.dvd hu.full hS.full
    obtain ⟨k2, e2⟩ := hγ.dvd hS.full hu.full
    have hl : u.length = (stdT t b).length := by
      have a1 := hS.full.good.n1
      rcases Nat.eq_zero_or_pos k1 with h | h
      · rw [h] at e1; omega
      rcases Nat.eq_zero_or_pos k2 with h' | h'
      · rw [h'] at e2; omega
      have b1 : (stdT t b).length ≤ u.length := by rw [e1]; exact Nat.le_mul_of_pos_right _ h
      have b2 : u.length ≤ (stdT t b).length := by rw [e2]; exact Nat.le_mul_of_pos_right _ h'
      omega
    exact std_eq hu.full hS.full hu.std hS.std hα h0α (Hm.inj hu.full hα hγ (by show β (ψ (α 0)) = 0; rw [h0α, h0ψ, hβb])) hl
end
end Go.Proofs.Ct
namespace Go.Proofs
open Go.RowKit Go.Shelf Go.Proofs.Ct Go.Maps
theorem wds_conj {g n m p : Nat} {l : List W} {r : W} (h : Wds g l n m) (hr : LOk g r) (hp : r.length ≤ p) : Wds g (conj r l) n (p + m + p) := by
  refine ⟨by rw [length_conj]; exact h.len, fun j => ?_, conj_ok hr h.ok⟩
  rcases Nat.lt_or_ge j l.length with hj | hj
  · rw [conj_getD hj, List.length_append, List.length_append, length_inv]
    have := h.short j
    omega
  · rw [List.getD_eq_getElem?_getD, List.getElem?_eq_none (by rw [length_conj]; exact hj)]
    exact Nat.zero_le _
theorem holds_conj {g : Nat} {rels sub : List W} {t s : Tb} {b : Nat} (h : Conj g rels sub t b s) (hp : presE g rels = 0) (hs : ∀ j, j < (conj ((reps t).getD b []) sub).length → LOk g ((conj ((reps t).getD b []) sub).getD j [])) : holdsE g rels (conj ((reps t).getD b []) sub) s = (true, 0) := by
  have h4 : ((conj ((reps t).getD b []) sub).any fun w => w.any (letBad g)) = false := by
    rw [List.any_eq_false]
    intro w hw
    obtain ⟨j, hj, rfl⟩ := List.mem_iff_getElem.1 hw
    have := hs j hj
    rw [List.getD_eq_getElem?_getD, List.getElem?_eq_getElem hj] at this
    have h5 := letBad_ok this
    simp only [Option.getD_some] at h5
    rw [h5]; simp
  have hB : holdsB rels (conj ((reps t).getD b []) sub) s = true := by
    unfold holdsB
    rw [Bool.and_eq_true, Bool.and_eq_true]
    refine ⟨⟨complete_true fun r hr c hc e => ?_, ?_⟩, ?_⟩
    · have := h.full.pos r hr c (by rw [← h.full.good.len r hr]; exact hc)
      unfold Tb.at at this
      omega
    · unfold staysB
      rw [List.all_eq_true]
      intro w hw
      obtain ⟨j, hj, rfl⟩ := List.mem_iff_getElem.1 hw
      have h1 := h.subc j hj
      rw [List.getD_eq_getElem?_getD, List.getElem?_eq_getElem hj] at h1
      have := leads_iff.2 h1
      simpa using this
    · rw [List.all_eq_true]
      intro r hr
      have hr' : r < s.length := by simpa using hr
      unfold staysB
      rw [List.all_eq_true]
      intro w hw
      obtain ⟨j, hj, rfl⟩ := List.mem_iff_getElem.1 hw
      have h1 := h.rel r hr' j hj
      rw [List.getD_eq_getElem?_getD, List.getElem?_eq_getElem hj] at h1
      have := leads_iff.2 h1
      simpa using this
  unfold holdsE
  rw [if_neg (by rw [hp]; simp), Int.toNat_natCast, if_neg (by rw [h4]; simp), check_of_good h.full.good, if_neg (by simp), hB]
theorem complete_full {g : Nat} {t : Tb} (h : Full g t) : complete t = true := complete_true fun r hr c hc e => by
  have := h.pos r hr c (by rw [← h.good.len r hr]; exact hc)
  unfold Tb.at at this
  omega
/-- what CosetConjugates has to see of a table with at most 40 cosets -/
structure ConjT (g : Nat) (rels sub : List W) (t : Tb) (b : Nat) : Prop where
  full : Full g t
  std : std t 0 = some t
  reps : repsE g t = (Ct.reps t, 0)
  rl : (Ct.reps t).length = t.length
  bn : b < t.length
  rb : LOk g ((Ct.reps t).getD b []) ∧ ((Ct.reps t).getD b []).length ≤ 40
  wds : Wds g (conj ((Ct.reps t).getD b []) sub) 6 100
  st : stdE g t (b : Int) = (stdT t b, 0)
  holds : holdsE g rels (conj ((Ct.reps t).getD b []) sub) (stdT t b) = (true, 0)
  enum : ∃ (u : Tb) (d m e : Int), enumE g rels (conj ((Ct.reps t).getD b []) sub) 1000 = (u, (d, m), e) ∧ (e = 12 ∨ (e = 0 ∧ u = stdT t b))
theorem conj_all (which : Int) (l k : List Int) : ∃ g : Nat, (givenP 6 which l).1 = (g : Int) ∧ 1 ≤ g ∧ g ≤ 3 ∧ Wds g (givenP 6 which l).2 6 60 ∧ Wds g (lawWords g 6 k) 6 12 ∧
    ∃ (t : Tb) (d1 m1 e1 : Int), enumE g (givenP 6 which l).2 (lawWords g 6 k) 300 = (t, (d1, m1), e1) ∧ (e1 = 12 ∨ (e1 = 0 ∧ 1 ≤ t.length ∧ t.length ≤ 300 ∧ (t.length ≤ 40 → ∀ b, b < t.length → ConjT g (givenP 6 which l).2 (lawWords g 6 k) t b))) := by
  obtain ⟨g, h1, h2, h3, h4⟩ := given_wds 6 (Nat.le_refl _) which l
  have h5 := wds_law h2 6 k
  have hp := h4.pres ⟨h2, by omega⟩ (by omega) (by omega)
  refine ⟨g, h1, h2, h3, h4, h5, ?_⟩
  rcases enum_cases (lim := 300) ⟨h2, by omega⟩ hp h4.ok h5.ok (fun lim' a b => h5.good (by omega) (by omega) ⟨a, b⟩) (by omega) with c1 | ⟨t, d, q, c1⟩
  · exact ⟨_, _, _, _, c1, .inl rfl⟩
  · refine ⟨_, _, _, _, c1.is 300 c1.room (by omega), .inr ⟨rfl, c1.n1, by have := c1.live; have := c1.most; have := c1.room; omega, fun h40 b hb => ?_⟩⟩
    have hC := c1.coset
    have hlen := reps_len hC.full hC.std
    have hro := reps_ok hC.full b
    have hrl := (reps_length hC.full.good (std_iff hC.std)).2 b hb
    have hw := wds_conj (p := 40) h5 hro (by omega)
    have hw' : Wds g (conj ((reps t).getD b []) (lawWords g 6 k)) 6 100 := ⟨hw.len, fun j => by have := hw.short j; omega, hw.ok⟩
    have hL := conj_law h4.ok h5.ok hC hb
    have hn := hC.full.good.n1
    refine ⟨hC.full, hC.std, repsE_full hC.full hC.std, hlen, hb, ⟨hro, by omega⟩, hw', ?_, holds_conj hL hp hw.ok, ?_⟩
    · unfold stdE
      rw [check_of_good hC.full.good, if_neg (by simp), if_neg (by omega), hL.of]
    · rcases enum_cases (lim := 1000) ⟨h2, by omega⟩ hp h4.ok hw'.ok (fun lim' a b => hw'.good (by omega) (by omega) ⟨a, b⟩) (by omega) with c2 | ⟨u, d2, q2, c2⟩
      · exact ⟨_, _, _, _, c2, .inl rfl⟩
      · exact ⟨_, _, _, _, c2.is 1000 c2.room (by omega), .inr ⟨rfl, hL.eq u c2.coset⟩⟩
end Go.Proofs
namespace Go.Proofs
open Go.RowKit Go.Shelf Go.Proofs.Ct Go.Maps
theorem below_drew' (w : World) : Below w.heap.size w w.drew := (Below.refl _ _).drew
theorem conj_push {F : Nat → Prop} {w0 wr : World} {so vb ui ur : Value} {rows : List (List Int)} {x y z : List Int} (h : OutSt 25 F w0 wr so rows) (hx : IntsAt wr vb x) (hy : IntsAt wr ui y) (hz : IntsAt wr ur z) (lx : x.length ≤ 1000) (ly : y.length ≤ 1000) (lz : z.length ≤ 1000) (hr : rows.length ≤ 1000) :
    ∃ (A1 : Option Addr) (c1 : Nat) (w1 : World) (A2 : Option Addr) (c2 : Nat) (w2 : World) (A3 : Option Addr) (c3 : Nat) (w3 : World) (A4 : Option Addr) (c4 : Nat) (w4 : World) (G : Nat → Prop),
      (Builtin.append_ #[25, 25] 25 #[.slice (some ⟨wr.heap.size, 0, none⟩) 0 0, vb]).run Try.prog (wr.drew.alloc (.cells #[] 3)) = .ok (.slice A1 x.length c1) w1 ∧
      (Builtin.append_ #[25, 25] 25 #[.slice A1 x.length c1, ui]).run Try.prog w1 = .ok (.slice A2 (x ++ y).length c2) w2 ∧
      (Builtin.append_ #[25, 25] 25 #[.slice A2 (x ++ y).length c2, ur]).run Try.prog w2 = .ok (.slice A3 (x ++ y ++ z).length c3) w3 ∧
      (Builtin.append_ #[31, 31] 31 #[so, .slice (some ⟨w3.heap.size, 0, none⟩) 1 1]).run Try.prog (w3.alloc (.cells #[.slice A3 (x ++ y ++ z).length c3] 25)) = .ok (.slice A4 (rows.length + 1) c4) w4 ∧
      OutSt 25 G w0 w4 (.slice A4 (rows.length + 1) c4) (rows ++ [x ++ y ++ z]) ∧ Below wr.heap.size wr w1 ∧ Below wr.heap.size wr w2 ∧ Below wr.heap.size wr w3 := by
  have hf : Fits (x ++ y ++ z) := fun v hv => by
    rcases List.mem_append.1 hv with hv | hv
    · rcases List.mem_append.1 hv with hv | hv
      · exact hx.2 v hv
      · exact hy.2 v hv
    · exact hz.2 v hv
  have hd := below_drew' wr
  have hal : Below wr.drew.heap.size wr.drew (wr.drew.alloc (.cells #[] 3)) := (Below.refl _ _).alloc (Nat.le_refl _) _
  have hba := bl3 hd hal
  have h0 : OwnI wr.heap.size (wr.drew.alloc (.cells #[] 3)) (.slice (some ⟨wr.heap.size, 0, none⟩) 0 0) [] := own_new wr.drew
  obtain ⟨A1, c1, w1, hr1, ho1, hg1, -⟩ := app_ints 25 25 Try.underlying25 (wr.drew.alloc (.cells #[] 3)) wr.heap.size _ [] h0 _ _ (hx.below hba) (by simp) (by omega) hba.size
  rw [List.nil_append] at hr1 ho1
  have hb1 : Below wr.heap.size wr w1 := hba.grown hg1 hba.size fun q hq => (owns_block h0 q hq).1
  obtain ⟨A2, c2, w2, hr2, ho2, hg2, -⟩ := app_ints 25 25 Try.underlying25 w1 wr.heap.size _ x ho1 _ _ (hy.below hb1) (by omega) (by omega) hb1.size
  have hb2 : Below wr.heap.size wr w2 := hb1.grown hg2 hb1.size fun q hq => (owns_block ho1 q hq).1
  obtain ⟨A3, c3, w3, hr3, ho3, hg3, -⟩ := app_ints 25 25 Try.underlying25 w2 wr.heap.size _ (x ++ y) ho2 _ _ (hz.below hb2) (by simp; omega) (by omega) hb2.size
  have hb3 : Below wr.heap.size wr w3 := hb2.grown hg3 hb2.size fun q hq => (owns_block ho2 q hq).1
  obtain ⟨A4, c4, w4, hr4, hS4⟩ := (h.with_row hb3 ho3).done (t := 31) (by decide) Try.underlying31 info25p hf (by omega)
  exact ⟨A1, c1, w1, A2, c2, w2, A3, c3, w3, A4, c4, w4, _, hr1, hr2, hr3, hr4, hS4, hb1, hb2, hb3⟩
/-- one letter of the word back -/
theorem back_step {R : List Int} {j : Nat} (h : 0 < j) (hj : j ≤ R.length) : Ct.inv (R.drop (j - 1)) = Ct.inv (R.drop j) ++ [-(R.getD (j - 1) 0)] := by
  have h1 : R.drop (j - 1) = R.getD (j - 1) 0 :: R.drop j := by
    rw [List.drop_eq_getElem_cons (by omega : j - 1 < R.length)]
    congr 1
    · simp [List.getD_eq_getElem?_getD, show j - 1 < R.length by omega]
    · rw [show j - 1 + 1 = j by omega]
  rw [h1, inv_cons]
/-- the stage that a region has come to -/
def stg (l1 l3 l8 l13 l14 l15 : Bool) (a b c d e f g : World) : World := bif l15 then g else bif l14 then f else bif l13 then e else bif l8 then d else bif l3 then c else bif l1 then b else a
end Go.Proofs
