/- The reference's Check. -/
import Derived.Test.YtnhoiompdjabbaaA10
import Derived.Test.YtnhoiompdjabbaaA6
namespace Go.Proofs
open Go.RowKit Go.Proofs.Pc

structure Bc (w : World) (a0 a1 a2 : Value) (W : World) : Prop where
  below : Below w.heap.size w W
  box : W.heap[w.heap.size]? = some (.cells #[a0, a1, a2] 26 (0, 0))
theorem Bc.step {w W W' : World} {a0 a1 a2 : Value} (h : Bc w a0 a1 a2 W) (hb : Below W.heap.size W W') : Bc w a0 a1 a2 W' :=
  ⟨h.below.trans (hb.mono h.below.size), (hb.block _ (Array.getElem?_eq_some_iff.1 h.box).1).trans h.box⟩
theorem Bc.c0 {w W : World} {a0 a1 a2 : Value} (h : Bc w a0 a1 a2 W) : W.cell? ⟨w.heap.size, 0, none⟩ = some a0 := by rw [cell_of_row _ _ _ _ _ _ h.box]; rfl
theorem Bc.c1 {w W : World} {a0 a1 a2 : Value} (h : Bc w a0 a1 a2 W) : W.cell? ⟨w.heap.size, 1, none⟩ = some a1 := by rw [cell_of_row _ _ _ _ _ _ h.box]; rfl
theorem Bc.c2 {w W : World} {a0 a1 a2 : Value} (h : Bc w a0 a1 a2 W) : W.cell? ⟨w.heap.size, 2, none⟩ = some a2 := by rw [cell_of_row _ _ _ _ _ _ h.box]; rfl

theorem prod_bd {P : PcD} : ∀ k, firstNZ (overErr P) k = 0 → firstP (ordErr P) P.n = (0, 0) → k ≤ P.n → 0 ≤ prod P k ∧ prod P k ≤ 50000
  | 0, _, _, _ => ⟨by show (0 : Int) ≤ 1; omega, by show (1 : Int) ≤ 50000; omega⟩
  | k + 1, h, ho, hk => by
    have h1 := firstNZ_zero h k (by omega)
    have h0 : firstNZ (overErr P) k = 0 := by
      have h' : (if firstNZ (overErr P) k = 0 then overErr P k else firstNZ (overErr P) k) = 0 := h
      by_cases e : firstNZ (overErr P) k = 0
      · exact e
      · rw [if_neg e] at h'; exact absurd h' e
    have hi := prod_bd k h0 ho (by omega)
    have hd := firstP_zero (f := ordErr P) (by rw [ho]) k (by omega)
    unfold overErr at h1
    unfold ordErr at hd
    have h2 : prod P (k + 1) ≤ 50000 := by
      by_cases e : prod P (k + 1) ≤ 50000
      · exact e
      · rw [if_neg e] at h1; cases h1
    have h3 : 2 ≤ P.ord k ∧ P.ord k ≤ 1000 := by
      by_cases e : 2 ≤ P.ord k ∧ P.ord k ≤ 1000
      · exact e
      · rw [if_neg e] at hd; cases hd
    exact ⟨Int.mul_nonneg hi.1 (by omega), h2⟩

/-- a cell of the powers, and of the conjugates, of whatever length -/
theorem pow_cell' {w : World} {A1 : Option Addr} {c1 : Nat} {v0 v2 : Value} {P : PcD} (h : PcAt w v0 (.slice A1 P.powers.length c1) v2 P) {i : Nat} (hi : i < P.powers.length) :
    ∃ b o A cc, A1 = some ⟨b, o, none⟩ ∧ w.cell? ⟨b, o + i, none⟩ = some (.slice A (P.pow i).length cc) ∧ IntsAt w (.slice A (P.pow i).length cc) (P.pow i) := by
  obtain ⟨A, c, e, -, -, hr⟩ := h.2.1.open_
  cases e
  obtain ⟨b, o, rfl, hc⟩ := hr (by omega)
  obtain ⟨u, hu, hI⟩ := hc i hi
  obtain ⟨A', c', rfl, -⟩ := hI.open_
  exact ⟨b, o, A', c', rfl, hu, hI⟩
theorem conj_row' {w : World} {A2 : Option Addr} {c2 : Nat} {v0 v1 : Value} {P : PcD} (h : PcAt w v0 v1 (.slice A2 P.conj.length c2) P) {j : Nat} (hj : j < P.conj.length) :
    ∃ b o A cc, A2 = some ⟨b, o, none⟩ ∧ w.cell? ⟨b, o + j, none⟩ = some (.slice A (P.conj.getD j []).length cc) ∧ (P.conj.getD j []).length ≤ cc ∧ cc ≤ 9223372036854775807 ∧ Tab w (.slice A (P.conj.getD j []).length cc) (P.conj.getD j []) := by
  obtain ⟨A, c, e, -, -, hr⟩ := h.2.2.open_
  cases e
  obtain ⟨b, o, rfl, hc⟩ := hr (by omega)
  obtain ⟨u, hu, hT⟩ := hc j hj
  obtain ⟨A', c', rfl, h1, h2, -⟩ := hT.open_
  exact ⟨b, o, A', c', rfl, hu, h1, h2, hT⟩
theorem row_cell' {w : World} {A : Option Addr} {n cc : Nat} {L : List (List Int)} (h : Tab w (.slice A n cc) L) {i : Nat} (hi : i < L.length) :
    ∃ b o A' c', A = some ⟨b, o, none⟩ ∧ w.cell? ⟨b, o + i, none⟩ = some (.slice A' (L.getD i []).length c') ∧ IntsAt w (.slice A' (L.getD i []).length c') (L.getD i []) := by
  obtain ⟨A1, c, e, -, -, hr⟩ := h.open_
  cases e
  obtain ⟨b, o, rfl, hc⟩ := hr (by omega)
  obtain ⟨u, hu, hI⟩ := hc i hi
  obtain ⟨A', c', rfl, -⟩ := hI.open_
  exact ⟨b, o, A', c', rfl, hu, hI⟩

set_option maxRecDepth 100000 in
set_option maxHeartbeats 2000000 in
theorem checkRef_any (w : World) (v0 v1 v2 : Value) (P : PcD) (hP : PcAt w v0 v1 v2 P) :
    Calls Try.prog 24 #[.agg #[v0, v1, v2]] w fun e w' => e = .returned (.tuple #[.int .i64 (checkD P).1, .int .i64 (checkD P).2]) ∧ Below w.heap.size w w' := by
  obtain ⟨⟨A0, c0, rfl⟩, ⟨A1, c1, rfl⟩, A2, c2, rfl⟩ := pc_slices hP
  have HP := Lib.hid hP
  have hD0 : Bc w (.slice A0 P.orders.length c0) (.slice A1 P.powers.length c1) (.slice A2 P.conj.length c2) (w.alloc (.cells #[.slice A0 P.orders.length c0, .slice A1 P.powers.length c1, .slice A2 P.conj.length c2] 26)) := ⟨(Below.refl _ _).alloc (Nat.le_refl _) _, heap_alloc_new w _⟩
  have hn : P.n = P.orders.length := rfl
  obtain ⟨A0', c0', e0, -, hmx0, hr0⟩ := hP.1.open_
  cases e0
  have HR0 := Lib.hid hr0
  have HD := Lib.hid hD0
  have HN := Lib.hid hn
  clear hr0 hP hn
  by_cases h12 : P.orders.length ≤ 12
  case neg =>
    have d1 : decide ((12 : Int) < (P.orders.length : Int)) = true := by simp; omega
    have hl : checkD P = (4, 0) := by
      have : lenErr P = 4 := by unfold lenErr; rw [if_neg (by rw [HN.out]; exact h12)]
      unfold checkD orElse; rw [this]; rfl
    have HL := Lib.hid hl
    clear hl
    go_enter Try.func24, Try.ntmps24
    go_wp2_with fail
    go_ret2
    exact ⟨by first | (rw [HL.out]; done) | (rw [HL.out]; rfl), HD.out.below⟩
  have d1 : decide ((12 : Int) < (P.orders.length : Int)) = false := by simp; omega
  by_cases hle : P.powers.length = P.n ∧ P.conj.length = P.n
  case neg =>
    have hl : checkD P = (3, 0) := by
      have : lenErr P = 3 := by unfold lenErr; rw [if_pos (by rw [HN.out]; exact h12), if_neg hle]
      unfold checkD orElse; rw [this]; rfl
    have HL := Lib.hid hl
    rw [HN.out] at hle
    clear hl
    by_cases hp : P.powers.length = P.orders.length
    · have d2 : ((P.powers.length : Int) != (P.orders.length : Int)) = false := by simp; omega
      have d2' : (P.powers.length != P.orders.length) = false := by simp; omega
      have d3 : ((P.conj.length : Int) != (P.orders.length : Int)) = true := by simp; omega
      have d3' : (P.conj.length != P.orders.length) = true := by simp; omega
      have HPP := Lib.hid hp
      clear hp hle
      go_enter Try.func24, Try.ntmps24
      go_wp2_with fail
      go_ret2
      exact ⟨by first | (rw [HL.out]; done) | (rw [HL.out]; rfl), HD.out.below⟩
    · have d2 : ((P.powers.length : Int) != (P.orders.length : Int)) = true := by simp; omega
      have d2' : (P.powers.length != P.orders.length) = true := by simp; omega
      clear hp hle
      go_enter Try.func24, Try.ntmps24
      go_wp2_with fail
      go_ret2
      exact ⟨by first | (rw [HL.out]; done) | (rw [HL.out]; rfl), HD.out.below⟩
  have hl0 : lenErr P = 0 := by unfold lenErr; rw [if_pos (by rw [HN.out]; exact h12), if_pos hle]
  rw [HN.out] at hle
  have HPL := Lib.hid hle.1
  have HCL := Lib.hid hle.2
  have d2 : ((P.powers.length : Int) != (P.orders.length : Int)) = false := by simp; omega
  have d2' : (P.powers.length != P.orders.length) = false := by simp; omega
  have d3 : ((P.conj.length : Int) != (P.orders.length : Int)) = false := by simp; omega
  have d3' : (P.conj.length != P.orders.length) = false := by simp; omega
  have HL0 := Lib.hid hl0
  clear hle hl0
  go_enter Try.func24, Try.ntmps24
  go_wp2_with fail
  generalize hWW : w.alloc (.cells #[.slice A0 P.orders.length c0, .slice A1 P.powers.length c1, .slice A2 P.conj.length c2] 26) = W at *
  have HWW := Lib.hid hWW
  clear hWW hD0
  have k0 := HD.out.c0
  have k1 := HD.out.c1
  have k2 := HD.out.c2
  go_loop [5] (fun s => ∃ k : Nat, k ≤ P.orders.length ∧ s = .int .i64 k ∧ firstP (ordErr P) k = (0, 0)) (fun s => P.orders.length - (intOf s).toNat)
  case atStart => exact ⟨0, Nat.zero_le _, rfl, rfl⟩
  case round =>
    obtain ⟨k, hk, rfl, hz⟩ := hrel
    have HZ := Lib.hid hz
    clear hz
    by_cases hlt : k < P.orders.length
    · obtain ⟨b0, o0, rfl, hc⟩ := HR0.out (by omega)
      have hck : W.cell? ⟨b0, o0 + k, none⟩ = some (.int .i64 (P.orders.getD k 0)) := (KC.of_below HD.out.below).cell (hc k hlt)
      have hoe : ordErr P k = if 2 ≤ P.orders.getD k 0 ∧ P.orders.getD k 0 ≤ 1000 then 0 else 2 := rfl
      have HOE := Lib.hid hoe
      have hk0 : (0 : Int) ≤ (k : Int) := Int.natCast_nonneg _
      have hkn : (k : Int) < (P.orders.length : Int) := by omega
      clear hc hoe
      generalize P.orders.getD k 0 = x at *
      by_cases h2 : x < 2
      · have d4 : decide (x < 2) = true := by simpa using h2
        have hf := firstP_hit HZ.out (by rw [HOE.out, if_neg (by omega)]; decide) P.n hlt
        rw [HOE.out, if_neg (by omega)] at hf
        have HF := Lib.hid hf
        clear hf
        go_wp2_with fail
        go_ret2
        exact ⟨by unfold checkD orElse; rw [if_pos HL0.out, HF.out]; rfl, HD.out.below⟩
      · have d4 : decide (x < 2) = false := by simpa using h2
        by_cases h3 : 1000 < x
        · have d5 : decide (1000 < x) = true := by simpa using h3
          have hf := firstP_hit HZ.out (by rw [HOE.out, if_neg (by omega)]; decide) P.n hlt
          rw [HOE.out, if_neg (by omega)] at hf
          have HF := Lib.hid hf
          clear hf
          go_wp2_with fail
          go_ret2
          exact ⟨by unfold checkD orElse; rw [if_pos HL0.out, HF.out]; rfl, HD.out.below⟩
        · have d5 : decide (1000 < x) = false := by simpa using h3
          go_wp2_with fail
          go_round
          case rel => exact ⟨k + 1, by omega, by go_num, firstP_step HZ.out (by rw [HOE.out, if_pos (by omega)])⟩
          case measure => simp [intOf]; omega
    · obtain rfl : k = P.orders.length := by omega
      have HZ1 : Hid (firstP (ordErr P) P.n = (0, 0)) := HZ
      go_wp2_with fail
      go_loop [6, 7] (fun t s => ∃ k : Nat, k ≤ P.orders.length ∧ s = .int .i64 k ∧ t = .int .i64 (prod P k) ∧ firstNZ (overErr P) k = 0) (fun _ s => P.orders.length - (intOf s).toNat)
      case atStart => exact ⟨0, Nat.zero_le _, rfl, rfl, rfl⟩
      case round =>
        obtain ⟨k, hk, rfl, rfl, hz⟩ := hrel
        have HZ2 := Lib.hid hz
        clear hz
        by_cases hlt : k < P.orders.length
        · obtain ⟨b0, o0, rfl, hc⟩ := HR0.out (by omega)
          have hck : W.cell? ⟨b0, o0 + k, none⟩ = some (.int .i64 (P.orders.getD k 0)) := (KC.of_below HD.out.below).cell (hc k hlt)
          have hk0 : (0 : Int) ≤ (k : Int) := Int.natCast_nonneg _
          have hkn : (k : Int) < (P.orders.length : Int) := by omega
          have hbd := prod_bd k HZ2.out HZ1.out (by rw [HN.out]; exact hk)
          have hod := firstP_zero (f := ordErr P) (congrArg Prod.fst HZ1.out) k hlt
          have hx : 2 ≤ P.orders.getD k 0 ∧ P.orders.getD k 0 ≤ 1000 := by
            have hoe : ordErr P k = if 2 ≤ P.orders.getD k 0 ∧ P.orders.getD k 0 ≤ 1000 then 0 else 2 := rfl
            rw [hoe] at hod
            by_cases e : 2 ≤ P.orders.getD k 0 ∧ P.orders.getD k 0 ≤ 1000
            · exact e
            · rw [if_neg e] at hod; cases hod
          have hps : prod P (k + 1) = prod P k * P.orders.getD k 0 := rfl
          have hov : overErr P k = if prod P k * P.orders.getD k 0 ≤ 50000 then 0 else 5 := rfl
          have hmw : IntKind.i64.wrap (prod P k * P.orders.getD k 0) = prod P k * P.orders.getD k 0 := by
            have h1 : prod P k * P.orders.getD k 0 ≤ 50000 * 1000 := Int.mul_le_mul hbd.2 hx.2 (by omega) (by omega)
            have h2 : 0 ≤ prod P k * P.orders.getD k 0 := Int.mul_nonneg hbd.1 (by omega)
            exact IntWalk.i64_in _ (by omega)
          have HPS := Lib.hid hps
          have HOV := Lib.hid hov
          clear hc hod hps hov
          generalize P.orders.getD k 0 = x at *
          have hpa : prod P k = prod P k := rfl
          generalize hap : prod P k = a at *
          have HAP := Lib.hid hap
          clear hap hpa
          by_cases h5 : a * x ≤ 50000
          · have d6 : decide ((50000 : Int) < a * x) = false := by simp; omega
            go_wp2_with fail
            go_round
            case rel => exact ⟨k + 1, by omega, by go_num, by rw [HPS.out], firstNZ_step HZ2.out (by rw [HOV.out, if_pos h5])⟩
            case measure => simp [intOf]; omega
          · have d6 : decide ((50000 : Int) < a * x) = true := by simp; omega
            have hf := firstNZ_hit HZ2.out (by rw [HOV.out, if_neg h5]; decide) P.n hlt
            rw [HOV.out, if_neg h5] at hf
            have HF := Lib.hid hf
            clear hf
            go_wp2_with fail
            go_ret2
            exact ⟨by unfold checkD orElse; rw [if_pos HL0.out, HZ1.out, if_pos rfl, HF.out]; rfl, HD.out.below⟩
        · obtain rfl : k = P.orders.length := by omega
          have HZ3 : Hid (firstNZ (overErr P) P.n = 0) := HZ2
          go_wp2_with fail
          go_loopw [8] (fun s wr => ∃ k : Nat, k ≤ P.orders.length ∧ s = .int .i64 k ∧ firstP (genErr P) k = (0, 0) ∧ Bc w (.slice A0 P.orders.length c0) (.slice A1 P.powers.length c1) (.slice A2 P.conj.length c2) wr) (fun s _ => P.orders.length - (intOf s).toNat)
          case atStart => exact ⟨0, Nat.zero_le _, rfl, rfl, HD.out⟩
          case round =>
            clear k0 k1 k2
            obtain ⟨k, hk, rfl, hz, hD⟩ := hrel
            have HZ4 := Lib.hid hz
            have HD := Lib.hid hD
            have k0 := HD.out.c0
            have k1 := HD.out.c1
            have k2 := HD.out.c2
            clear hz hD
            by_cases hlt : k < P.orders.length
            · have hk0 : (0 : Int) ≤ (k : Int) := Int.natCast_nonneg _
              have hkn : (k : Int) < (P.orders.length : Int) := by omega
              have hkp : (k : Int) < (P.powers.length : Int) := by rw [HPL.out]; omega
              have hkc : (k : Int) < (P.conj.length : Int) := by rw [HCL.out]; omega
              have hPr := HP.out.below HD.out.below
              obtain ⟨b1, o1, A3, c3, rfl, hcp, hIp⟩ := pow_cell' hPr (i := k) (by rw [HPL.out]; exact hlt)
              obtain ⟨b2, o2, A4, c4, rfl, hcc, hc41, hc42, hTc⟩ := conj_row' hPr (j := k) (by rw [HCL.out]; exact hlt)
              have hge : genErr P k = if listErr P (P.pow k) ((k : Int) + 1) = 0 then (if (P.conj.getD k []).length = k then firstNZ (fun i => listErr P (P.cj k i) ((i : Int) + 1)) k else 3) else listErr P (P.pow k) ((k : Int) + 1) := rfl
              have hlp : listErr P (P.pow k) ((k : Int) + 1) = if (P.pow k).length = P.orders.length then (if normalB P.orders (P.pow k) ((k : Int) + 1) then 0 else 2) else 3 := rfl
              have HD' := HD
              have hcc0 := Lib.hid hcc
              have HGE := Lib.hid hge
              have HLP := Lib.hid hlp
              have HI0 := Lib.hid hPr.1
              have HIP := Lib.hid hIp
              have HTC := Lib.hid hTc
              have hcje : ∀ i, P.cj k i = (P.conj.getD k []).getD i [] := fun i => rfl
              have HCJ := Lib.hid hcje
              clear hge hlp hPr hIp hTc hcje
              generalize hrow : P.conj.getD k [] = row at *
              have HRow := Lib.hid hrow
              clear hrow
              have hfin : genErr P k ≠ 0 → checkD P = (genErr P k, (k : Int) + 1) := fun hne => by
                have := firstP_hit HZ4.out hne P.n hlt
                unfold checkD orElse; rw [if_pos HL0.out, HZ1.out, if_pos rfl, if_pos HZ3.out, this]
              have HFIN := Lib.hid hfin
              clear hfin
              by_cases hpl : (P.pow k).length = P.orders.length
              case neg =>
                have d7 : (((P.pow k).length : Int) != (P.orders.length : Int)) = true := by simp; omega
                have d7' : ((P.pow k).length != P.orders.length) = true := by simp; omega
                have hg : genErr P k = 3 := by rw [HGE.out, HLP.out, if_neg hpl]; rfl
                have hf := HFIN.out (by rw [hg]; decide)
                rw [hg] at hf
                have HF := Lib.hid hf
                clear hg hf hpl
                go_wp2_with fail
                go_ret2
                exact ⟨by first | (rw [HF.out]; done) | (rw [HF.out]; rfl), HD.out.below⟩
              have d7 : (((P.pow k).length : Int) != (P.orders.length : Int)) = false := by simp; omega
              have d7' : ((P.pow k).length != P.orders.length) = false := by simp; omega
              have HPW := Lib.hid hpl
              clear hpl
              go_wp2_with fail
              go_still_tail 8, (by kernel_rfl)
              change wpList _ _ _ _ _ wr.drew
              obtain ⟨wd, hwd⟩ : ∃ wd, wd = wr.drew := ⟨_, rfl⟩
              have hkd : Below wr.heap.size wr wd := by rw [hwd]; exact (Below.refl _ _).drew
              rw [← hwd]
              clear hwd
              have HK := Lib.hid (normalRef_any wd _ (.slice (some ⟨b1, o1, none⟩) P.powers.length c1) (.slice (some ⟨b2, o2, none⟩) P.conj.length c2) _ P.orders (P.pow k) ((k : Int) + 1) (HI0.out.below hkd) (HIP.out.below hkd) (by rw [HPW.out]; exact Nat.le_refl _))
              have HKD := Lib.hid hkd
              clear hkd
              by_cases hnb : normalB P.orders (P.pow k) ((k : Int) + 1) = true
              case neg =>
                have hnb' : normalB P.orders (P.pow k) ((k : Int) + 1) = false := by simpa using hnb
                have hg : genErr P k = 2 := by rw [HGE.out, HLP.out, if_pos HPW.out, if_neg hnb]; rfl
                have hf := HFIN.out (by rw [hg]; decide)
                rw [hg] at hf
                have HF := Lib.hid hf
                have HNB := Lib.hid hnb'
                clear hg hf hnb hnb'
                go_wp2_with (go_at_call 64; (refine HK.out.mono ?_); rintro e w5 ⟨rfl, hb5⟩; rw [HNB.out]; have HD := Lib.hid (HD.out.step (HKD.out.trans (hb5.mono HKD.out.size))); clear hb5)
                go_ret2
                exact ⟨by first | (rw [HF.out]; done) | (rw [HF.out]; rfl), HD.out.below⟩
              have hl0 : listErr P (P.pow k) ((k : Int) + 1) = 0 := by rw [HLP.out, if_pos HPW.out, if_pos hnb]
              have HLL := Lib.hid hl0
              have HNB := Lib.hid hnb
              clear hnb hl0
              by_cases hrl : row.length = k
              case neg =>
                have d8 : ((row.length : Int) != (k : Int)) = true := by simp; omega
                have d8' : (row.length != k) = true := by simp; omega
                have hg : genErr P k = 3 := by rw [HGE.out, if_pos HLL.out, if_neg hrl]
                have hf := HFIN.out (by rw [hg]; decide)
                rw [hg] at hf
                have HF := Lib.hid hf
                clear hg hf hrl
                go_wp2_with (go_at_call 64; (refine HK.out.mono ?_); rintro e w5 ⟨rfl, hb5⟩; rw [HNB.out]; have HB5 := Lib.hid (HKD.out.trans (hb5.mono HKD.out.size)); have HD := Lib.hid (HD.out.step HB5.out); have k2 := HD.out.c2; have hcc := (KC.of_below HB5.out).cell hcc; clear hb5)
                go_ret2
                exact ⟨by first | (rw [HF.out]; done) | (rw [HF.out]; rfl), HD.out.below⟩
              have d8 : ((row.length : Int) != (k : Int)) = false := by simp; omega
              have d8' : (row.length != k) = false := by simp; omega
              have HRL := Lib.hid hrl
              have hrkl : (k : Int) ≤ (row.length : Int) := by omega
              clear hrl
              go_wp2_with (go_at_call 64; (refine HK.out.mono ?_); rintro e w5 ⟨rfl, hb5⟩; rw [HNB.out]; have HB5 := Lib.hid (HKD.out.trans (hb5.mono HKD.out.size)); have HD := Lib.hid (HD.out.step HB5.out); have k2 := HD.out.c2; have hcc := (KC.of_below HB5.out).cell hcc; clear hb5)
              obtain ⟨wo, rfl⟩ : ∃ wo, wo = wr := ⟨_, rfl⟩
              go_loopw [9] (fun s wr => ∃ j : Nat, j ≤ k ∧ s = .int .i64 j ∧ firstNZ (fun i => listErr P (P.cj k i) ((i : Int) + 1)) j = 0 ∧ Below wo.heap.size wo wr) (fun s _ => k - (intOf s).toNat)
              case atStart => exact ⟨0, Nat.zero_le _, rfl, rfl, HB5.out⟩
              case round =>
                obtain ⟨j, hj, rfl, hzj, hbq⟩ := hrel
                have HZJ := Lib.hid hzj
                have HBQ := Lib.hid hbq
                have hDq := Lib.hid (HD'.out.step hbq)
                clear hzj hbq
                have k2q := hDq.out.c2
                have hccq := (KC.of_below HBQ.out).cell hcc0.out
                clear k0 k1 k2 hcc hcp
                by_cases hjl : j < k
                · have hj0 : (0 : Int) ≤ (j : Int) := Int.natCast_nonneg _
                  have hjk : (j : Int) < (k : Int) := by omega
                  have hjr : (j : Int) < (row.length : Int) := by omega
                  obtain ⟨b3, o3, A5, c5, rfl, hcj, hIj⟩ := row_cell' (kept_tab.below HTC.out HBQ.out) (i := j) (by rw [HRL.out]; exact hjl)
                  have hI0 := HI0.out.below HBQ.out
                  have hle : listErr P (P.cj k j) ((j : Int) + 1) = if (row.getD j []).length = P.orders.length then (if normalB P.orders (row.getD j []) ((j : Int) + 1) then 0 else 2) else 3 := by rw [HCJ.out]; rfl
                  have hgn : listErr P (P.cj k j) ((j : Int) + 1) ≠ 0 → genErr P k = listErr P (P.cj k j) ((j : Int) + 1) := fun hne => by
                    rw [HGE.out, if_pos HLL.out, if_pos HRL.out, firstNZ_hit (f := fun i => listErr P (P.cj k i) ((i : Int) + 1)) HZJ.out hne k hjl]
                  have HLE := Lib.hid hle
                  have HGN := Lib.hid hgn
                  have HIJ := Lib.hid hIj
                  have HI0' := Lib.hid hI0
                  clear hle hgn hIj hI0
                  generalize hrj : row.getD j [] = rj at *
                  have HRJ := Lib.hid hrj
                  clear hrj
                  by_cases hjn : rj.length = P.orders.length
                  case neg =>
                    have d9 : ((rj.length : Int) != (P.orders.length : Int)) = true := by simp; omega
                    have d9' : (rj.length != P.orders.length) = true := by simp; omega
                    have hg : listErr P (P.cj k j) ((j : Int) + 1) = 3 := by rw [HLE.out, if_neg hjn]
                    have hg2 := HGN.out (by rw [hg]; decide)
                    have hf := HFIN.out (by rw [hg2, hg]; decide)
                    rw [hg2, hg] at hf
                    have HF := Lib.hid hf
                    clear hg hg2 hf hjn
                    go_wp2_with fail
                    go_ret2
                    exact ⟨by first | (rw [HF.out]; done) | (rw [HF.out]; rfl), hDq.out.below⟩
                  have d9 : ((rj.length : Int) != (P.orders.length : Int)) = false := by simp; omega
                  have d9' : (rj.length != P.orders.length) = false := by simp; omega
                  have HJN := Lib.hid hjn
                  clear hjn
                  have kq0 := hDq.out.c0
                  have kq1 := hDq.out.c1
                  go_wp2_with fail
                  go_still_tail 11, (by kernel_rfl)
                  change wpList _ _ _ _ _ wr.drew
                  obtain ⟨wd, hwd⟩ : ∃ wd, wd = wr.drew := ⟨_, rfl⟩
                  have hkd : Below wr.heap.size wr wd := by rw [hwd]; exact (Below.refl _ _).drew
                  rw [← hwd]
                  clear hwd
                  have HK := Lib.hid (normalRef_any wd _ (.slice (some ⟨b1, o1, none⟩) P.powers.length c1) (.slice (some ⟨b2, o2, none⟩) P.conj.length c2) _ P.orders rj ((j : Int) + 1) (HI0'.out.below hkd) (HIJ.out.below hkd) (by rw [HJN.out]; exact Nat.le_refl _))
                  have HKD := Lib.hid hkd
                  clear hkd
                  by_cases hnb : normalB P.orders rj ((j : Int) + 1) = true
                  case neg =>
                    have hnb' : normalB P.orders rj ((j : Int) + 1) = false := by simpa using hnb
                    have hg : listErr P (P.cj k j) ((j : Int) + 1) = 2 := by rw [HLE.out, if_pos HJN.out, if_neg hnb]
                    have hg2 := HGN.out (by rw [hg]; decide)
                    have hf := HFIN.out (by rw [hg2, hg]; decide)
                    rw [hg2, hg] at hf
                    have HF := Lib.hid hf
                    have HNB := Lib.hid hnb'
                    clear hg hg2 hf hnb hnb'
                    go_wp2_with (go_at_call 64; (refine HK.out.mono ?_); rintro e w6 ⟨rfl, hb6⟩; rw [HNB.out]; have HB6 := Lib.hid (HKD.out.trans (hb6.mono HKD.out.size)); clear hb6)
                    go_ret2
                    exact ⟨by first | (rw [HF.out]; done) | (rw [HF.out]; rfl), (hDq.out.step HB6.out).below⟩
                  have hg : listErr P (P.cj k j) ((j : Int) + 1) = 0 := by rw [HLE.out, if_pos HJN.out, if_pos hnb]
                  have HG := Lib.hid hg
                  have HNB := Lib.hid hnb
                  clear hg hnb
                  go_wp2_with (go_at_call 64; (refine HK.out.mono ?_); rintro e w6 ⟨rfl, hb6⟩; rw [HNB.out]; have HB6 := Lib.hid (HKD.out.trans (hb6.mono HKD.out.size)); clear hb6)
                  go_roundw
                  case rel => exact ⟨j + 1, by omega, by go_num, firstNZ_step HZJ.out HG.out, HBQ.out.trans (HB6.out.mono HBQ.out.size)⟩
                  case measure => simp [intOf]; omega
                · obtain rfl : j = k := by omega
                  go_wp2_with fail
                  go_roundw
                  case rel => exact ⟨j + 1, by omega, by go_num, firstP_step HZ4.out (by rw [HGE.out, if_pos HLL.out, if_pos HRL.out, HZJ.out]), hDq.out⟩
                  case measure => simp [intOf]; omega
            · obtain rfl : k = P.orders.length := by omega
              go_wp2_with fail
              go_ret2
              have hfin : checkD P = (0, 0) := by unfold checkD orElse; rw [if_pos HL0.out, HZ1.out, if_pos rfl, if_pos HZ3.out]; exact HZ4.out
              exact ⟨by first | (rw [hfin]; done) | (rw [hfin]; rfl), HD.out.below⟩
end Go.Proofs
