/- The reference's step for one place. -/
import Derived.Test.YthfachbkcmifbaaGreatGrCS13
import Derived.Test.YthfachbkcmifbaaGreatGrCS14
import Derived.Test.YthfachbkcmifbaaGreatGrCS9
namespace Go.Proofs
open Go.RowKit Go.Shelf Go.Proofs.Sm
set_option maxRecDepth 100000 in
set_option maxHeartbeats 4000000 in
theorem step38_any (base b r n : Nat) (w : World) (s : S) (o : Option S) (k : Nat) (hr : r ≤ 100000) (hn : n ≤ 100000) (hS : Wk 86 b base w s (.bool false)) (hbw : base ≤ w.heap.size) (hp : Base r n s) (hrt : s.t < r) (hnt : s.t < n) (ho : run r n k .choose s = some o) :
    Calls Tryz.prog 61 #[.pointer (some ⟨b, 0, none⟩), .int .i64 (s.t : Int)] w (StepR b base r n s.t w o) := by
  obtain ⟨t, hst⟩ : ∃ t, t = s.t := ⟨_, rfl⟩
  have ht := hrt
  have htn := hnt
  rw [← hst] at ht htn ⊢
  have HSTART : Hid (∃ m, HeadR b base r n t w o m (.bool true) w) := Lib.hid ⟨k, .inl ⟨s, rfl, hst.symm, hp, ho, hS, Chb.refl _ _ _⟩⟩
  clear hS hp ho hrt hnt hst
  have HLE : Hid (∀ σ W, Wk 86 b base W σ (.bool false) → Base r n σ → σ.t = t → Calls Tryz.prog 77 #[.pointer (some ⟨b, 0, none⟩), .int .i64 (t : Int)] W (LeastPost b base r n σ (.bool false) W)) := Lib.hid fun σ W h1 h2 h3 => by
    have h := least57_any base b r n W σ (.bool false) hr hn h1 h2 (by rw [h3]; exact ht) (by rw [h3]; exact htn)
    rw [h3] at h
    exact h
  have HCN : Hid (∀ σ W, Wk 86 b base W σ (.bool false) → base ≤ W.heap.size → Piv r n σ → σ.t = t → (σ.down r).fine = false → Calls Tryz.prog 78 #[.pointer (some ⟨b, 0, none⟩), .int .i64 (t : Int), .bool true] W fun e w' => e = .returned (.bool false) ∧ Wk 86 b base w' (σ.down r) (.bool true) ∧ Chb b base W w') := Lib.hid fun σ W h1 h2 h3 h4 h5 => by
    have h := clear58_no hr hn h1 h2 h3 h5
    rw [h4] at h
    exact h
  have HCY : Hid (∀ σ W, Wk 86 b base W σ (.bool false) → base ≤ W.heap.size → Piv r n σ → σ.t = t → (σ.down r).fine = true → Calls Tryz.prog 78 #[.pointer (some ⟨b, 0, none⟩), .int .i64 (t : Int), .bool true] W (ClearYes b base r n ((σ.down r).across n) W)) := Lib.hid fun σ W h1 h2 h3 h4 h5 => by
    have h := clear58_yes hr hn h1 h2 h3 h5
    rw [h4] at h
    exact h
  have HCA : Hid (∀ σ W, Wk 86 b base W σ (.bool false) → base ≤ W.heap.size → Acr r n σ → σ.t = t → Calls Tryz.prog 78 #[.pointer (some ⟨b, 0, none⟩), .int .i64 (t : Int), .bool false] W (ClearYes b base r n (σ.across n) W)) := Lib.hid fun σ W h1 h2 h3 h4 => by
    have h := clear58_across hr hn h1 h2 h3
    rw [h4] at h
    exact h
  have HSP : Hid (∀ σ W, Wk 86 b base W σ (.bool false) → base ≤ W.heap.size → Piv r n σ → σ.t = t → Calls Tryz.prog 79 #[.pointer (some ⟨b, 0, none⟩), .int .i64 (t : Int)] W (SpreadR b base r n σ W)) := Lib.hid fun σ W h1 h2 h3 h4 => by
    have h := spread59_any base b r n W σ hr hn h1 h2 h3
    rw [h4] at h
    exact h
  have ht0 : (0 : Int) ≤ (t : Int) := Int.natCast_nonneg _
  have htr : (t : Int) < (r : Int) := by omega
  have htn' : (t : Int) < (n : Int) := by omega
  have hrb : (r : Int) ≤ 100000 := by omega
  have hnb : (n : Int) ≤ 100000 := by omega
  go_enter Tryz.func61, Tryz.ntmps61
  go_wp2_with fail
  go_loopw [5] (fun z wr => ∃ m, HeadR b base r n t w o m z wr) (fun z wr => leastN fun m => HeadR b base r n t w o m z wr)
  case atStart => exact HSTART.out
  case round =>
    obtain ⟨m, hm⟩ := hrel
    have hl := leastN_spec (P := fun m => HeadR b base r n t w o m _ wr) hm
    clear hm
    rcases hl with ⟨σ, rfl, hσt, hB, hrun, hW, hC⟩ | ⟨σ, rfl, hσt, hB, hrun, hW, hC⟩ | ⟨σ, d, rfl, hon, hW, hC⟩
    · have HCH := Lib.hid hC
      have h57 := HLE.out σ wr hW hB hσt
      have hpos : 0 < leastN fun m => HeadR b base r n t w o m (.bool true) wr := by
        rcases Nat.eq_zero_or_pos (leastN fun m => HeadR b base r n t w o m (.bool true) wr) with h | h
        · rw [h] at hrun; cases hrun
        · exact h
      have HPOS := Lib.hid hpos
      obtain ⟨mo, hmo⟩ : ∃ mo, mo = leastN fun m => HeadR b base r n t w o m (.bool true) wr := ⟨_, rfl⟩
      rw [← hmo] at hrun HPOS
      have HMO := Lib.hid hmo
      clear hmo hpos
      cases hls : least σ.a σ.t r n with
      | none =>
        have HON : Hid (o = some σ) := Lib.hid (hd_choose_none hB hrun (by omega) (by omega) hls)
        have H57 : Hid (Calls Tryz.prog 77 #[.pointer (some ⟨b, 0, none⟩), .int .i64 (t : Int)] wr fun e w' => e = .returned (.bool false) ∧ Wk 86 b base w' σ (.bool false) ∧ Chb b base wr w') := Lib.hid (h57.mono fun e w' h => by
          rcases h with ⟨-, h⟩ | ⟨x, y, h, -⟩
          · exact h
          · rw [hls] at h; cases h)
        have hc0 := hW.cell3.1
        clear h57 hls hrun hB hW hC
        go_wp2_with (go_at_call 77; (refine H57.out.mono ?_); rintro e w1 ⟨rfl, h1, h2⟩; have H1 := Lib.hid h1; have H2 := Lib.hid (HCH.out.trans h2); clear h1 h2)
        go_ret
        exact .inl ⟨σ, rfl, HON.out, hσt, H1.out, H2.out⟩
      | some xy =>
        obtain ⟨x, y⟩ := xy
        obtain ⟨m1, hm1, hp1, hr1⟩ := hd_choose_some hB hrun (by omega) (by omega) hls
        have H57 : Hid (Calls Tryz.prog 77 #[.pointer (some ⟨b, 0, none⟩), .int .i64 (t : Int)] wr fun e w' => e = .returned (.bool true) ∧ Wk 86 b base w' ((σ.swR σ.t x).swC σ.t y) (.bool false) ∧ Chb b base wr w') := Lib.hid (h57.mono fun e w' h => by
          rcases h with ⟨h, -⟩ | ⟨x', y', h, h2⟩
          · rw [hls] at h; cases h
          · rw [hls] at h; cases h; exact h2)
        have hc0 := hW.cell3.1
        have h1t : ((σ.swR σ.t x).swC σ.t y).t = t := hσt
        generalize (σ.swR σ.t x).swC σ.t y = σ1 at *
        clear h57 hls hrun hB hW hC hσt
        cases hfd : (σ1.down r).fine with
        | false =>
          have HON : Hid (o = none ∧ Shape r n (σ1.down r)) := Lib.hid ⟨hd_down_no hr1 hfd, (down_at hp1).sh⟩
          have H58 := Lib.hid fun W h1 h2 => HCN.out σ1 W h1 h2 hp1 h1t hfd
          clear hr1 hp1 hfd hm1
          go_wp2_with (first | (go_at_call 77; (refine H57.out.mono ?_); rintro e w1 ⟨rfl, h1, h2⟩; have H1 := Lib.hid h1; have H2 := Lib.hid (HCH.out.trans h2); clear h1 h2) | (go_at_call 78; (refine (H58.out _ H1.out (Nat.le_trans hbw H2.out.size)).mono ?_); rintro e w2 ⟨rfl, h3, h4⟩; have H3 := Lib.hid h3; have H4 := Lib.hid (H2.out.trans h4); have hc3 := h3.cell3.1; clear h3 h4))
          go_roundw
          case rel => exact ⟨0, .inr (.inr ⟨_, _, rfl, HON.out, H3.out, H4.out⟩)⟩
          case measure => exact Nat.lt_of_le_of_lt (leastN_le (P := fun m => HeadR b base r n t w o m _ _) (n := 0) (.inr (.inr ⟨_, _, rfl, HON.out, H3.out, H4.out⟩))) (HMO.out ▸ HPOS.out)
        | true =>
          obtain ⟨m2, hm2', hA, hRUN⟩ := hd_down_yes hp1 hr1 hfd
          have hm2 : m2 ≤ mo := by omega
          have hAt : (σ1.down r).t = t := by rw [(pi_down hp1 hfd).2.1]; exact h1t
          have HCLR := Lib.hid fun W h1 h2 => HCY.out σ1 W h1 h2 hp1 h1t hfd
          obtain ⟨s3, hs3⟩ : ∃ s3, s3 = (σ1.down r).across n := ⟨_, rfl⟩
          rw [← hs3] at HCLR
          clear hr1 hp1 hfd hm1 hm2'
          have h3t : s3.t = t := by rw [hs3, (across_at hA.toPiv).t]; exact hAt
          cases hfn : s3.fine with
          | false =>
            have HON : Hid (o = none ∧ Shape r n s3) := Lib.hid ⟨hd_across_no hRUN (by rw [← hs3]; exact hfn), by rw [hs3]; exact (across_at hA.toPiv).sh⟩
            cases hrs : (s3.restR r || s3.restC n) with
            | true =>
              have H58 : Hid (∀ W, Wk 86 b base W σ1 (.bool false) → base ≤ W.heap.size → Calls Tryz.prog 78 #[.pointer (some ⟨b, 0, none⟩), .int .i64 (t : Int), .bool true] W fun e w' => e = .returned (.bool false) ∧ Wk 86 b base w' s3 (.bool true) ∧ Chb b base W w') := Lib.hid fun W h1 h2 => (HCLR.out W h1 h2).mono fun e w' h => by
                unfold ClearYes at h
                rw [hrs, hfn] at h
                exact h
              clear hRUN hrs hfn
              go_wp2_with (first | (go_at_call 77; (refine H57.out.mono ?_); rintro e w1 ⟨rfl, h1, h2⟩; have H1 := Lib.hid h1; have H2 := Lib.hid (HCH.out.trans h2); clear h1 h2) | (go_at_call 78; (refine (H58.out _ H1.out (Nat.le_trans hbw H2.out.size)).mono ?_); rintro e w2 ⟨rfl, h3, h4⟩; have H3 := Lib.hid h3; have H4 := Lib.hid (H2.out.trans h4); have hc3 := h3.cell3.1; clear h3 h4))
              go_roundw
              case rel => exact ⟨0, .inr (.inr ⟨s3, _, rfl, HON.out, H3.out, H4.out⟩)⟩
              case measure => exact Nat.lt_of_le_of_lt (leastN_le (P := fun m => HeadR b base r n t w o m _ _) (n := 0) (.inr (.inr ⟨s3, _, rfl, HON.out, H3.out, H4.out⟩))) (HMO.out ▸ HPOS.out)
            | false =>
              have H58 : Hid (∀ W, Wk 86 b base W σ1 (.bool false) → base ≤ W.heap.size → Calls Tryz.prog 78 #[.pointer (some ⟨b, 0, none⟩), .int .i64 (t : Int), .bool true] W fun e w' => e = .returned (.bool true) ∧ Wk 86 b base w' s3 (.bool true) ∧ Chb b base W w') := Lib.hid fun W h1 h2 => (HCLR.out W h1 h2).mono fun e w' h => by
                unfold ClearYes at h
                rw [hrs, hfn] at h
                exact h
              clear hRUN hrs hfn
              go_wp2_with (first | (go_at_call 77; (refine H57.out.mono ?_); rintro e w1 ⟨rfl, h1, h2⟩; have H1 := Lib.hid h1; have H2 := Lib.hid (HCH.out.trans h2); clear h1 h2) | (go_at_call 78; (refine (H58.out _ H1.out (Nat.le_trans hbw H2.out.size)).mono ?_); rintro e w2 ⟨rfl, h3, h4⟩; have H3 := Lib.hid h3; have H4 := Lib.hid (H2.out.trans h4); have hc3 := h3.cell3.1; clear h3 h4))
              go_ret
              exact .inr (.inl ⟨s3, rfl, HON.out, H3.out, H4.out⟩)
          | true =>
            cases hrs : (s3.restR r || s3.restC n) with
            | true =>
              obtain ⟨m3, hm3, hb3, hr3⟩ := hd_across_rest hA hRUN (by rw [← hs3]; exact hfn) (by rw [← hs3]; exact hrs)
              rw [← hs3] at hb3 hr3
              have HNEW : Hid (∀ W, Wk 86 b base W s3 (.bool false) → Chb b base w W → HeadR b base r n t w o m3 (.bool true) W) := Lib.hid fun W h1 h2 => .inl ⟨s3, rfl, h3t, hb3, hr3, h1, h2⟩
              have HLT := Lib.hid (Nat.lt_of_lt_of_le hm3 hm2)
              have H58 : Hid (∀ W, Wk 86 b base W σ1 (.bool false) → base ≤ W.heap.size → Calls Tryz.prog 78 #[.pointer (some ⟨b, 0, none⟩), .int .i64 (t : Int), .bool true] W fun e w' => e = .returned (.bool false) ∧ Wk 86 b base w' s3 (.bool false) ∧ Chb b base W w') := Lib.hid fun W h1 h2 => (HCLR.out W h1 h2).mono fun e w' h => by
                unfold ClearYes at h
                rw [hrs, hfn] at h
                exact h
              clear hRUN hrs hfn hb3 hr3 hm3 hm2
              go_wp2_with (first | (go_at_call 77; (refine H57.out.mono ?_); rintro e w1 ⟨rfl, h1, h2⟩; have H1 := Lib.hid h1; have H2 := Lib.hid (HCH.out.trans h2); clear h1 h2) | (go_at_call 78; (refine (H58.out _ H1.out (Nat.le_trans hbw H2.out.size)).mono ?_); rintro e w2 ⟨rfl, h3, h4⟩; have H3 := Lib.hid h3; have H4 := Lib.hid (H2.out.trans h4); have hc3 := h3.cell3.1; clear h3 h4))
              go_roundw
              case rel => exact ⟨m3, HNEW.out _ H3.out H4.out⟩
              case measure => exact Nat.lt_of_le_of_lt (leastN_le (P := fun m => HeadR b base r n t w o m _ _) (HNEW.out _ H3.out H4.out)) (HMO.out ▸ HLT.out)
            | false =>
              obtain ⟨m3, hm3, hb3, hr3⟩ := hd_across_spread hA hRUN (by rw [← hs3]; exact hfn) (by rw [← hs3]; exact hrs)
              rw [← hs3] at hb3 hr3
              have H58 : Hid (∀ W, Wk 86 b base W σ1 (.bool false) → base ≤ W.heap.size → Calls Tryz.prog 78 #[.pointer (some ⟨b, 0, none⟩), .int .i64 (t : Int), .bool true] W fun e w' => e = .returned (.bool true) ∧ Wk 86 b base w' s3 (.bool false) ∧ Chb b base W w') := Lib.hid fun W h1 h2 => (HCLR.out W h1 h2).mono fun e w' h => by
                unfold ClearYes at h
                rw [hrs, hfn] at h
                exact h
              have HSPR := Lib.hid fun W h1 h2 => HSP.out s3 W h1 h2 hb3.toPiv h3t
              cases hsp : s3.spreadAt r n with
              | some i =>
                rw [← h3t] at ht
                cases hf4 : (s3.addR s3.t i 1).fine with
                | false =>
                  have HON : Hid (o = none ∧ Shape r n (s3.addR s3.t i 1)) := Lib.hid ⟨hd_spread_no hr3 hsp hf4, hb3.sh.addR (spreadAt_some hsp).2.1 _⟩
                  have H59 : Hid (∀ W, Wk 86 b base W s3 (.bool false) → base ≤ W.heap.size → Calls Tryz.prog 79 #[.pointer (some ⟨b, 0, none⟩), .int .i64 (t : Int)] W fun e w' => e = .returned (.bool true) ∧ Wk 86 b base w' (s3.addR s3.t i 1) (.bool true) ∧ Chb b base W w') := Lib.hid fun W h1 h2 => (HSPR.out W h1 h2).mono fun e w' h => by
                    rcases h with ⟨h3, -⟩ | ⟨i', h3, h4, h5, h6⟩
                    · rw [hsp] at h3; cases h3
                    · rw [hsp] at h3; cases h3; rw [hf4] at h5; exact ⟨h4, h5, h6⟩
                  clear hRUN hrs hfn hb3 hr3 hm3 hm2 hsp hf4
                  go_wp2_with (first | (go_at_call 77; (refine H57.out.mono ?_); rintro e w1 ⟨rfl, h1, h2⟩; have H1 := Lib.hid h1; have H2 := Lib.hid (HCH.out.trans h2); clear h1 h2) | (go_at_call 78; (refine (H58.out _ H1.out (Nat.le_trans hbw H2.out.size)).mono ?_); rintro e w2 ⟨rfl, h3, h4⟩; have H3 := Lib.hid h3; have H4 := Lib.hid (H2.out.trans h4); have hc3 := h3.cell3.1; clear h3 h4) | (go_at_call 79; (refine (H59.out _ H3.out (Nat.le_trans hbw H4.out.size)).mono ?_); rintro e w3 ⟨rfl, h5, h6⟩; have H5 := Lib.hid h5; have H6 := Lib.hid (H4.out.trans h6); have hc5 := h5.cell3.1; clear h5 h6))
                  go_roundw
                  case rel => exact ⟨0, .inr (.inr ⟨_, _, rfl, HON.out, H5.out, H6.out⟩)⟩
                  case measure => exact Nat.lt_of_le_of_lt (leastN_le (P := fun m => HeadR b base r n t w o m _ _) (n := 0) (.inr (.inr ⟨_, _, rfl, HON.out, H5.out, H6.out⟩))) (HMO.out ▸ HPOS.out)
                | true =>
                  obtain ⟨m4, hm4, hb4, hr4⟩ := hd_spread_yes hb3 hr3 hsp hf4
                  have HNEW : Hid (∀ W, Wk 86 b base W (s3.addR s3.t i 1) (.bool false) → Chb b base w W → HeadR b base r n t w o m4 (.bool false) W) := Lib.hid fun W h1 h2 => .inr (.inl ⟨s3.addR s3.t i 1, rfl, h3t, hb4, hr4, h1, h2⟩)
                  have HLT := Lib.hid (Nat.lt_of_lt_of_le (Nat.lt_trans hm4 hm3) hm2)
                  have H59 : Hid (∀ W, Wk 86 b base W s3 (.bool false) → base ≤ W.heap.size → Calls Tryz.prog 79 #[.pointer (some ⟨b, 0, none⟩), .int .i64 (t : Int)] W fun e w' => e = .returned (.bool true) ∧ Wk 86 b base w' (s3.addR s3.t i 1) (.bool false) ∧ Chb b base W w') := Lib.hid fun W h1 h2 => (HSPR.out W h1 h2).mono fun e w' h => by
                    rcases h with ⟨h3, -⟩ | ⟨i', h3, h4, h5, h6⟩
                    · rw [hsp] at h3; cases h3
                    · rw [hsp] at h3; cases h3; rw [hf4] at h5; exact ⟨h4, h5, h6⟩
                  clear hRUN hrs hfn hb3 hr3 hm3 hm2 hsp hf4 hm4 hb4 hr4
                  go_wp2_with (first | (go_at_call 77; (refine H57.out.mono ?_); rintro e w1 ⟨rfl, h1, h2⟩; have H1 := Lib.hid h1; have H2 := Lib.hid (HCH.out.trans h2); clear h1 h2) | (go_at_call 78; (refine (H58.out _ H1.out (Nat.le_trans hbw H2.out.size)).mono ?_); rintro e w2 ⟨rfl, h3, h4⟩; have H3 := Lib.hid h3; have H4 := Lib.hid (H2.out.trans h4); have hc3 := h3.cell3.1; clear h3 h4) | (go_at_call 79; (refine (H59.out _ H3.out (Nat.le_trans hbw H4.out.size)).mono ?_); rintro e w3 ⟨rfl, h5, h6⟩; have H5 := Lib.hid h5; have H6 := Lib.hid (H4.out.trans h6); have hc5 := h5.cell3.1; clear h5 h6))
                  go_roundw
                  case rel => exact ⟨m4, HNEW.out _ H5.out H6.out⟩
                  case measure => exact Nat.lt_of_le_of_lt (leastN_le (P := fun m => HeadR b base r n t w o m _ _) (HNEW.out _ H5.out H6.out)) (HMO.out ▸ HLT.out)
              | none =>
                obtain ⟨m4, hm4, hb4, hr4⟩ := hd_spread_none hb3 hr3 hsp
                obtain ⟨m5, -, hb5, hr5⟩ := hd_sign hb4 hr4
                have HNX : Hid (s3.t + 1 = t + 1 ∧ Base r n { s3.sign with t := s3.t + 1 } ∧ run r n m5 .choose { s3.sign with t := s3.t + 1 } = some o) := Lib.hid ⟨by rw [h3t], hb5, hr5⟩
                have H59 : Hid (∀ W, Wk 86 b base W s3 (.bool false) → base ≤ W.heap.size → Calls Tryz.prog 79 #[.pointer (some ⟨b, 0, none⟩), .int .i64 (t : Int)] W fun e w' => e = .returned (.bool false) ∧ Wk 86 b base w' s3 (.bool false) ∧ Chb b base W w') := Lib.hid fun W h1 h2 => (HSPR.out W h1 h2).mono fun e w' h => by
                  rcases h with ⟨-, h4, h5, h6⟩ | ⟨i', h3, -⟩
                  · exact ⟨h4, h5, h6⟩
                  · rw [hsp] at h3; cases h3
                have HSGN : Hid (Sgn r n s3) := Lib.hid hb4
                have HST := Lib.hid h3t
                obtain ⟨v9, hv9⟩ : ∃ v, v = ent s3.a t t := ⟨_, rfl⟩
                have HV9 := Lib.hid hv9
                have hneg : v9 < 0 ∨ ¬ v9 < 0 := by omega
                rcases hneg with hneg | hneg
                · have hd9 : decide (v9 < 0) = true := decide_eq_true hneg
                  have HSIGN : Hid (s3.sign = s3.addR t t (-2)) := Lib.hid (by unfold S.sign; rw [h3t, if_pos (by rw [← hv9]; exact hneg)])
                  have HR0 : Hid (Rect (s3.mat 0) r n) := Lib.hid hb4.sh.ra
                  have HR1 : Hid (Rect (s3.mat 1) r r) := Lib.hid hb4.sh.ru
                  have HBD0 : Hid (∀ j, -1000000000 ≤ ent (s3.mat 0) t j ∧ ent (s3.mat 0) t j ≤ 1000000000) := Lib.hid fun j => hb4.toBase.bda t j
                  have HBD1 : Hid (∀ j, -1000000000 ≤ ent (s3.mat 1) t j ∧ ent (s3.mat 1) t j ≤ 1000000000) := Lib.hid fun j => hb4.toBase.bdu t j
                  clear hRUN hrs hfn hb3 hr3 hm3 hm2 hsp hm4 hb4 hr4 hb5 hr5 hv9
                  go_wp2_with (first | (go_at_call 77; (refine H57.out.mono ?_); rintro e w1 ⟨rfl, h1, h2⟩; have H1 := Lib.hid h1; have H2 := Lib.hid (HCH.out.trans h2); clear h1 h2) | (go_at_call 78; (refine (H58.out _ H1.out (Nat.le_trans hbw H2.out.size)).mono ?_); rintro e w2 ⟨rfl, h3, h4⟩; have H3 := Lib.hid h3; have H4 := Lib.hid (H2.out.trans h4); have hc3 := h3.cell3.1; clear h3 h4) | (go_at_call 79; (refine (H59.out _ H3.out (Nat.le_trans hbw H4.out.size)).mono ?_); rintro e w3 ⟨rfl, h5, h6⟩; have H5 := Lib.hid h5; have H6 := Lib.hid (H4.out.trans h6); have hc5 := h5.cell3.1; clear h5 h6; obtain ⟨g, d, bt, ct, k1, k2, k3, k4, k5, k6, k7, k8⟩ := H5.out.look HSGN.out.sh ht htn; have hk5 : (n : Int) ≤ (ct : Int) := (by omega); rw [← HV9.out] at k4))
                  clear k1 k2 k3 k4 k6 k7 k8 hk5 hd9
                  obtain ⟨vs, bl, cs, hM⟩ := H5.out
                  have HM0 : Hid (WkM 86 b base w3 (addTo s3 t t (-2) 0) (.bool false) vs bl cs ∧ Chb b base w w3) := Lib.hid ⟨hM, H6.out⟩
                  clear hM hc5
                  go_loopw [6] (fun z wr => ∃ j : Nat, j ≤ n ∧ z = .int .i64 j ∧ Hid (WkM 86 b base wr ((addTo s3 t t (-2) 0).setMat 0 (mixM (s3.mat 0) t t (-2) j)) (.bool false) vs bl cs ∧ Chb b base w wr)) (fun z _ => n - (intOf z).toNat)
                  case atStart => exact ⟨0, by omega, rfl, Lib.hid ⟨by rw [mixM_zero HR0.out ht, ← addTo_mat s3 t t (-2) (c := 0) (by omega), setMat_self]; exact HM0.out.1, HM0.out.2⟩⟩
                  case round =>
                    obtain ⟨j, hj, rfl, HQ⟩ := hrel
                    have hj0 : (0 : Int) ≤ (j : Int) := Int.natCast_nonneg _
                    have hm : ((addTo s3 t t (-2) 0).setMat 0 (mixM (s3.mat 0) t t (-2) j)).mat 0 = mixM (s3.mat 0) t t (-2) j := mat_set_self _ _ _
                    have hml : (mixM (s3.mat 0) t t (-2) j).length = r := by rw [mixM_length]; exact HR0.out.1
                    have hmr : ∀ p, p < r → ((mixM (s3.mat 0) t t (-2) j).getD p []).length = n := fun p hp => by rw [mixM_row HR0.out ht ht]; exact rect_row HR0.out hp
                    obtain ⟨c0, c1, c2, c3, c4⟩ := HQ.out.1.cells
                    obtain ⟨g, d, hv, hg1, -, -⟩ := HQ.out.1.row_at (k := 0) (i := t) (by omega) (by rw [hm, hml]; exact ht)
                    rw [hm, hml] at hv
                    rw [hm, hmr t ht] at hg1
                    rw [hv] at c0
                    have hcc1 := (HQ.out.1.row 0 t (by omega) (by rw [hm, hml]; exact ht)).2.2
                    rw [hm, hmr t ht] at hcc1
                    obtain ⟨hcc1a, hcc1b⟩ := hcc1
                    clear hv c1 c2 c3
                    by_cases hjl : j < n
                    · have hjl' : (j : Int) < (n : Int) := by omega
                      obtain ⟨hq2, hq3⟩ := HQ.out.1.ent_at (k := 0) (i := t) (j := j) (by omega) (by rw [hm, hml]; exact ht) (by rw [hm, hmr t ht]; exact hjl)
                      rw [hm, mixM_ent HR0.out ht ht] at hq2
                      have hset := HQ.out.1.set (k := 0) (i := t) (j := j) (by omega) (by rw [hm, hml]; exact ht) (by rw [hm, hmr t ht]; exact hjl) (ent (s3.mat 0) t j + -2 * ent (s3.mat 0) t j)
                      rw [hm, setMat_setMat, put_mixM HR0.out ht ht hjl, show ent (s3.mat 0) t j + -2 * ent (s3.mat 0) t j = -(ent (s3.mat 0) t j) by omega] at hset
                      obtain ⟨D, hD⟩ := HQ.out.1.row_ty (k := 0) (i := t) (by omega) (by rw [hm, hml]; exact ht)
                      have hbel := HQ.out.2.setRow HQ.out.1 (k := 0) (i := t) (by omega) (by rw [hm, hml]; exact ht) j (.int .i64 (-(ent (s3.mat 0) t j)))
                      have HN := Lib.hid (And.intro hset hbel)
                      have hbd := HBD0.out j
                      clear hm hml hmr hset hD hbel
                      generalize ent (s3.mat 0) t j = z at *
                      generalize bl 0 t = bi at *
                      generalize cs 0 t = ci at *
                      have hwz : IntKind.i64.wrap (-z) = -z := IntWalk.i64_in _ (by omega)
                      go_wp2_with fail
                      go_region
                      go_wp2_with fail
                      go_roundw
                      case rel => exact ⟨j + 1, by omega, by go_num, Lib.hid ⟨HN.out.1.drewN 1, HN.out.2.drewN 1⟩⟩
                      case measure => simp [intOf]; omega
                    · obtain rfl : n = j := by omega
                      have HM1 : Hid (WkM 86 b base wr (addTo s3 t t (-2) 1) (.bool false) vs bl cs ∧ Chb b base w wr) := Lib.hid ⟨by have := HQ.out.1; rw [mixM_full HR0.out ht ht (Nat.le_refl _), addTo_succ s3 t t (-2) (by omega)] at this; exact this, HQ.out.2⟩
                      clear hm hml hmr
                      go_wp2_with fail
                      go_loopw [7] (fun z wr => ∃ j : Nat, j ≤ r ∧ z = .int .i64 j ∧ Hid (WkM 86 b base wr ((addTo s3 t t (-2) 1).setMat 1 (mixM (s3.mat 1) t t (-2) j)) (.bool false) vs bl cs ∧ Chb b base w wr)) (fun z _ => r - (intOf z).toNat)
                      case atStart => exact ⟨0, by omega, rfl, Lib.hid ⟨by rw [mixM_zero HR1.out ht, ← addTo_mat s3 t t (-2) (c := 1) (by omega), setMat_self]; exact HM1.out.1, HM1.out.2⟩⟩
                      case round =>
                        obtain ⟨j, hj, rfl, HQ⟩ := hrel
                        have hj0 : (0 : Int) ≤ (j : Int) := Int.natCast_nonneg _
                        have hm : ((addTo s3 t t (-2) 1).setMat 1 (mixM (s3.mat 1) t t (-2) j)).mat 1 = mixM (s3.mat 1) t t (-2) j := mat_set_self _ _ _
                        have hml : (mixM (s3.mat 1) t t (-2) j).length = r := by rw [mixM_length]; exact HR1.out.1
                        have hmr : ∀ p, p < r → ((mixM (s3.mat 1) t t (-2) j).getD p []).length = r := fun p hp => by rw [mixM_row HR1.out ht ht]; exact rect_row HR1.out hp
                        obtain ⟨c0, c1, c2, c3, c4⟩ := HQ.out.1.cells
                        obtain ⟨g, d, hv, hg1, -, -⟩ := HQ.out.1.row_at (k := 1) (i := t) (by omega) (by rw [hm, hml]; exact ht)
                        rw [hm, hml] at hv
                        rw [hm, hmr t ht] at hg1
                        rw [hv] at c1
                        have hcc1 := (HQ.out.1.row 1 t (by omega) (by rw [hm, hml]; exact ht)).2.2
                        rw [hm, hmr t ht] at hcc1
                        obtain ⟨hcc1a, hcc1b⟩ := hcc1
                        clear hv c0 c2 c3
                        by_cases hjl : j < r
                        · have hjl' : (j : Int) < (r : Int) := by omega
                          obtain ⟨hq2, hq3⟩ := HQ.out.1.ent_at (k := 1) (i := t) (j := j) (by omega) (by rw [hm, hml]; exact ht) (by rw [hm, hmr t ht]; exact hjl)
                          rw [hm, mixM_ent HR1.out ht ht] at hq2
                          have hset := HQ.out.1.set (k := 1) (i := t) (j := j) (by omega) (by rw [hm, hml]; exact ht) (by rw [hm, hmr t ht]; exact hjl) (ent (s3.mat 1) t j + -2 * ent (s3.mat 1) t j)
                          rw [hm, setMat_setMat, put_mixM HR1.out ht ht hjl, show ent (s3.mat 1) t j + -2 * ent (s3.mat 1) t j = -(ent (s3.mat 1) t j) by omega] at hset
                          obtain ⟨D, hD⟩ := HQ.out.1.row_ty (k := 1) (i := t) (by omega) (by rw [hm, hml]; exact ht)
                          have hbel := HQ.out.2.setRow HQ.out.1 (k := 1) (i := t) (by omega) (by rw [hm, hml]; exact ht) j (.int .i64 (-(ent (s3.mat 1) t j)))
                          have HN := Lib.hid (And.intro hset hbel)
                          have hbd := HBD1.out j
                          clear hm hml hmr hset hD hbel
                          generalize ent (s3.mat 1) t j = z at *
                          generalize bl 1 t = bi at *
                          generalize cs 1 t = ci at *
                          have hwz : IntKind.i64.wrap (-z) = -z := IntWalk.i64_in _ (by omega)
                          go_wp2_with fail
                          go_region
                          go_wp2_with fail
                          go_roundw
                          case rel => exact ⟨j + 1, by omega, by go_num, Lib.hid ⟨HN.out.1.drewN 1, HN.out.2.drewN 1⟩⟩
                          case measure => simp [intOf]; omega
                        · obtain rfl : r = j := by omega
                          have HM2 : Hid (WkM 86 b base wr (addTo s3 t t (-2) 2) (.bool false) vs bl cs ∧ Chb b base w wr) := Lib.hid ⟨by have := HQ.out.1; rw [mixM_full HR1.out ht ht (Nat.le_refl _), addTo_succ s3 t t (-2) (by omega)] at this; exact this, HQ.out.2⟩
                          clear hm hml hmr
                          go_wp2_with fail
                          go_ret
                          exact .inr (.inr ⟨_, _, rfl, HNX.out.1, HNX.out.2.1, HNX.out.2.2, ⟨vs, bl, cs, by have h := HM2.out.1; rw [show addTo s3 t t (-2) 2 = s3.addR t t (-2) from rfl, ← HSIGN.out] at h; exact h.of rfl rfl rfl⟩, HM2.out.2⟩)
                · have hd9 : decide (v9 < 0) = false := decide_eq_false hneg
                  have HSIGN : Hid (s3.sign = s3) := Lib.hid (by unfold S.sign; rw [h3t, if_neg (by rw [← hv9]; exact hneg)])
                  clear hRUN hrs hfn hb3 hr3 hm3 hm2 hsp hm4 hb4 hr4 hb5 hr5 hv9
                  go_wp2_with (first | (go_at_call 77; (refine H57.out.mono ?_); rintro e w1 ⟨rfl, h1, h2⟩; have H1 := Lib.hid h1; have H2 := Lib.hid (HCH.out.trans h2); clear h1 h2) | (go_at_call 78; (refine (H58.out _ H1.out (Nat.le_trans hbw H2.out.size)).mono ?_); rintro e w2 ⟨rfl, h3, h4⟩; have H3 := Lib.hid h3; have H4 := Lib.hid (H2.out.trans h4); have hc3 := h3.cell3.1; clear h3 h4) | (go_at_call 79; (refine (H59.out _ H3.out (Nat.le_trans hbw H4.out.size)).mono ?_); rintro e w3 ⟨rfl, h5, h6⟩; have H5 := Lib.hid h5; have H6 := Lib.hid (H4.out.trans h6); have hc5 := h5.cell3.1; clear h5 h6; obtain ⟨g, d, bt, ct, k1, k2, k3, k4, k5, k6, k7, k8⟩ := H5.out.look HSGN.out.sh ht htn; have hk5 : (n : Int) ≤ (ct : Int) := (by omega); rw [← HV9.out] at k4))
                  go_ret
                  exact .inr (.inr ⟨_, _, rfl, HNX.out.1, HNX.out.2.1, HNX.out.2.2, by rw [HSIGN.out]; obtain ⟨vs, bl, cs, hM⟩ := H5.out; exact ⟨vs, bl, cs, hM.of rfl rfl rfl⟩, H6.out⟩)
    · have HCH := Lib.hid hC
      have hpos : 0 < leastN fun m => HeadR b base r n t w o m (.bool false) wr := by
        rcases Nat.eq_zero_or_pos (leastN fun m => HeadR b base r n t w o m (.bool false) wr) with h | h
        · rw [h] at hrun; cases hrun
        · exact h
      have HPOS := Lib.hid hpos
      obtain ⟨mo, hmo⟩ : ∃ mo, mo = leastN fun m => HeadR b base r n t w o m (.bool false) wr := ⟨_, rfl⟩
      rw [← hmo] at hrun HPOS
      have HMO := Lib.hid hmo
      clear hmo hpos
      have hA := hB
      have hAt := hσt
      have hRUN := hrun
      have hm2 : mo ≤ mo := Nat.le_refl _
      have HCLR := Lib.hid fun W h1 h2 => HCA.out σ W h1 h2 hA hAt
      obtain ⟨s3, hs3⟩ : ∃ s3, s3 = σ.across n := ⟨_, rfl⟩
      rw [← hs3] at HCLR
      have H1 := Lib.hid hW
      have H2 := Lib.hid hC
      have hc0 := hW.cell3.1
      clear hB hrun hW hC hσt
      have h3t : s3.t = t := by rw [hs3, (across_at hA.toPiv).t]; exact hAt
      cases hfn : s3.fine with
      | false =>
        have HON : Hid (o = none ∧ Shape r n s3) := Lib.hid ⟨hd_across_no hRUN (by rw [← hs3]; exact hfn), by rw [hs3]; exact (across_at hA.toPiv).sh⟩
        cases hrs : (s3.restR r || s3.restC n) with
        | true =>
          have H58 : Hid (∀ W, Wk 86 b base W σ (.bool false) → base ≤ W.heap.size → Calls Tryz.prog 78 #[.pointer (some ⟨b, 0, none⟩), .int .i64 (t : Int), .bool false] W fun e w' => e = .returned (.bool false) ∧ Wk 86 b base w' s3 (.bool true) ∧ Chb b base W w') := Lib.hid fun W h1 h2 => (HCLR.out W h1 h2).mono fun e w' h => by
            unfold ClearYes at h
            rw [hrs, hfn] at h
            exact h
          clear hRUN hrs hfn
          go_wp2_with (first | (go_at_call 78; (refine (H58.out _ H1.out (Nat.le_trans hbw H2.out.size)).mono ?_); rintro e w2 ⟨rfl, h3, h4⟩; have H3 := Lib.hid h3; have H4 := Lib.hid (H2.out.trans h4); have hc3 := h3.cell3.1; clear h3 h4))
          go_roundw
          case rel => exact ⟨0, .inr (.inr ⟨s3, _, rfl, HON.out, H3.out, H4.out⟩)⟩
          case measure => exact Nat.lt_of_le_of_lt (leastN_le (P := fun m => HeadR b base r n t w o m _ _) (n := 0) (.inr (.inr ⟨s3, _, rfl, HON.out, H3.out, H4.out⟩))) (HMO.out ▸ HPOS.out)
        | false =>
          have H58 : Hid (∀ W, Wk 86 b base W σ (.bool false) → base ≤ W.heap.size → Calls Tryz.prog 78 #[.pointer (some ⟨b, 0, none⟩), .int .i64 (t : Int), .bool false] W fun e w' => e = .returned (.bool true) ∧ Wk 86 b base w' s3 (.bool true) ∧ Chb b base W w') := Lib.hid fun W h1 h2 => (HCLR.out W h1 h2).mono fun e w' h => by
            unfold ClearYes at h
            rw [hrs, hfn] at h
            exact h
          clear hRUN hrs hfn
          go_wp2_with (first | (go_at_call 78; (refine (H58.out _ H1.out (Nat.le_trans hbw H2.out.size)).mono ?_); rintro e w2 ⟨rfl, h3, h4⟩; have H3 := Lib.hid h3; have H4 := Lib.hid (H2.out.trans h4); have hc3 := h3.cell3.1; clear h3 h4))
          go_ret
          exact .inr (.inl ⟨s3, rfl, HON.out, H3.out, H4.out⟩)
      | true =>
        cases hrs : (s3.restR r || s3.restC n) with
        | true =>
          obtain ⟨m3, hm3, hb3, hr3⟩ := hd_across_rest hA hRUN (by rw [← hs3]; exact hfn) (by rw [← hs3]; exact hrs)
          rw [← hs3] at hb3 hr3
          have HNEW : Hid (∀ W, Wk 86 b base W s3 (.bool false) → Chb b base w W → HeadR b base r n t w o m3 (.bool true) W) := Lib.hid fun W h1 h2 => .inl ⟨s3, rfl, h3t, hb3, hr3, h1, h2⟩
          have HLT := Lib.hid (Nat.lt_of_lt_of_le hm3 hm2)
          have H58 : Hid (∀ W, Wk 86 b base W σ (.bool false) → base ≤ W.heap.size → Calls Tryz.prog 78 #[.pointer (some ⟨b, 0, none⟩), .int .i64 (t : Int), .bool false] W fun e w' => e = .returned (.bool false) ∧ Wk 86 b base w' s3 (.bool false) ∧ Chb b base W w') := Lib.hid fun W h1 h2 => (HCLR.out W h1 h2).mono fun e w' h => by
            unfold ClearYes at h
            rw [hrs, hfn] at h
            exact h
          clear hRUN hrs hfn hb3 hr3 hm3 hm2
          go_wp2_with (first | (go_at_call 78; (refine (H58.out _ H1.out (Nat.le_trans hbw H2.out.size)).mono ?_); rintro e w2 ⟨rfl, h3, h4⟩; have H3 := Lib.hid h3; have H4 := Lib.hid (H2.out.trans h4); have hc3 := h3.cell3.1; clear h3 h4))
          go_roundw
          case rel => exact ⟨m3, HNEW.out _ H3.out H4.out⟩
          case measure => exact Nat.lt_of_le_of_lt (leastN_le (P := fun m => HeadR b base r n t w o m _ _) (HNEW.out _ H3.out H4.out)) (HMO.out ▸ HLT.out)
        | false =>
          obtain ⟨m3, hm3, hb3, hr3⟩ := hd_across_spread hA hRUN (by rw [← hs3]; exact hfn) (by rw [← hs3]; exact hrs)
          rw [← hs3] at hb3 hr3
          have H58 : Hid (∀ W, Wk 86 b base W σ (.bool false) → base ≤ W.heap.size → Calls Tryz.prog 78 #[.pointer (some ⟨b, 0, none⟩), .int .i64 (t : Int), .bool false] W fun e w' => e = .returned (.bool true) ∧ Wk 86 b base w' s3 (.bool false) ∧ Chb b base W w') := Lib.hid fun W h1 h2 => (HCLR.out W h1 h2).mono fun e w' h => by
            unfold ClearYes at h
            rw [hrs, hfn] at h
            exact h
          have HSPR := Lib.hid fun W h1 h2 => HSP.out s3 W h1 h2 hb3.toPiv h3t
          cases hsp : s3.spreadAt r n with
          | some i =>
            rw [← h3t] at ht
            cases hf4 : (s3.addR s3.t i 1).fine with
            | false =>
              have HON : Hid (o = none ∧ Shape r n (s3.addR s3.t i 1)) := Lib.hid ⟨hd_spread_no hr3 hsp hf4, hb3.sh.addR (spreadAt_some hsp).2.1 _⟩
              have H59 : Hid (∀ W, Wk 86 b base W s3 (.bool false) → base ≤ W.heap.size → Calls Tryz.prog 79 #[.pointer (some ⟨b, 0, none⟩), .int .i64 (t : Int)] W fun e w' => e = .returned (.bool true) ∧ Wk 86 b base w' (s3.addR s3.t i 1) (.bool true) ∧ Chb b base W w') := Lib.hid fun W h1 h2 => (HSPR.out W h1 h2).mono fun e w' h => by
                rcases h with ⟨h3, -⟩ | ⟨i', h3, h4, h5, h6⟩
                · rw [hsp] at h3; cases h3
                · rw [hsp] at h3; cases h3; rw [hf4] at h5; exact ⟨h4, h5, h6⟩
              clear hRUN hrs hfn hb3 hr3 hm3 hm2 hsp hf4
              go_wp2_with (first | (go_at_call 78; (refine (H58.out _ H1.out (Nat.le_trans hbw H2.out.size)).mono ?_); rintro e w2 ⟨rfl, h3, h4⟩; have H3 := Lib.hid h3; have H4 := Lib.hid (H2.out.trans h4); have hc3 := h3.cell3.1; clear h3 h4) | (go_at_call 79; (refine (H59.out _ H3.out (Nat.le_trans hbw H4.out.size)).mono ?_); rintro e w3 ⟨rfl, h5, h6⟩; have H5 := Lib.hid h5; have H6 := Lib.hid (H4.out.trans h6); have hc5 := h5.cell3.1; clear h5 h6))
              go_roundw
              case rel => exact ⟨0, .inr (.inr ⟨_, _, rfl, HON.out, H5.out, H6.out⟩)⟩
              case measure => exact Nat.lt_of_le_of_lt (leastN_le (P := fun m => HeadR b base r n t w o m _ _) (n := 0) (.inr (.inr ⟨_, _, rfl, HON.out, H5.out, H6.out⟩))) (HMO.out ▸ HPOS.out)
            | true =>
              obtain ⟨m4, hm4, hb4, hr4⟩ := hd_spread_yes hb3 hr3 hsp hf4
              have HNEW : Hid (∀ W, Wk 86 b base W (s3.addR s3.t i 1) (.bool false) → Chb b base w W → HeadR b base r n t w o m4 (.bool false) W) := Lib.hid fun W h1 h2 => .inr (.inl ⟨s3.addR s3.t i 1, rfl, h3t, hb4, hr4, h1, h2⟩)
              have HLT := Lib.hid (Nat.lt_of_lt_of_le (Nat.lt_trans hm4 hm3) hm2)
              have H59 : Hid (∀ W, Wk 86 b base W s3 (.bool false) → base ≤ W.heap.size → Calls Tryz.prog 79 #[.pointer (some ⟨b, 0, none⟩), .int .i64 (t : Int)] W fun e w' => e = .returned (.bool true) ∧ Wk 86 b base w' (s3.addR s3.t i 1) (.bool false) ∧ Chb b base W w') := Lib.hid fun W h1 h2 => (HSPR.out W h1 h2).mono fun e w' h => by
                rcases h with ⟨h3, -⟩ | ⟨i', h3, h4, h5, h6⟩
                · rw [hsp] at h3; cases h3
                · rw [hsp] at h3; cases h3; rw [hf4] at h5; exact ⟨h4, h5, h6⟩
              clear hRUN hrs hfn hb3 hr3 hm3 hm2 hsp hf4 hm4 hb4 hr4
              go_wp2_with (first | (go_at_call 78; (refine (H58.out _ H1.out (Nat.le_trans hbw H2.out.size)).mono ?_); rintro e w2 ⟨rfl, h3, h4⟩; have H3 := Lib.hid h3; have H4 := Lib.hid (H2.out.trans h4); have hc3 := h3.cell3.1; clear h3 h4) | (go_at_call 79; (refine (H59.out _ H3.out (Nat.le_trans hbw H4.out.size)).mono ?_); rintro e w3 ⟨rfl, h5, h6⟩; have H5 := Lib.hid h5; have H6 := Lib.hid (H4.out.trans h6); have hc5 := h5.cell3.1; clear h5 h6))
              go_roundw
              case rel => exact ⟨m4, HNEW.out _ H5.out H6.out⟩
              case measure => exact Nat.lt_of_le_of_lt (leastN_le (P := fun m => HeadR b base r n t w o m _ _) (HNEW.out _ H5.out H6.out)) (HMO.out ▸ HLT.out)
          | none =>
            obtain ⟨m4, hm4, hb4, hr4⟩ := hd_spread_none hb3 hr3 hsp
            obtain ⟨m5, -, hb5, hr5⟩ := hd_sign hb4 hr4
            have HNX : Hid (s3.t + 1 = t + 1 ∧ Base r n { s3.sign with t := s3.t + 1 } ∧ run r n m5 .choose { s3.sign with t := s3.t + 1 } = some o) := Lib.hid ⟨by rw [h3t], hb5, hr5⟩
            have H59 : Hid (∀ W, Wk 86 b base W s3 (.bool false) → base ≤ W.heap.size → Calls Tryz.prog 79 #[.pointer (some ⟨b, 0, none⟩), .int .i64 (t : Int)] W fun e w' => e = .returned (.bool false) ∧ Wk 86 b base w' s3 (.bool false) ∧ Chb b base W w') := Lib.hid fun W h1 h2 => (HSPR.out W h1 h2).mono fun e w' h => by
              rcases h with ⟨-, h4, h5, h6⟩ | ⟨i', h3, -⟩
              · exact ⟨h4, h5, h6⟩
              · rw [hsp] at h3; cases h3
            have HSGN : Hid (Sgn r n s3) := Lib.hid hb4
            have HST := Lib.hid h3t
            obtain ⟨v9, hv9⟩ : ∃ v, v = ent s3.a t t := ⟨_, rfl⟩
            have HV9 := Lib.hid hv9
            have hneg : v9 < 0 ∨ ¬ v9 < 0 := by omega
            rcases hneg with hneg | hneg
            · have hd9 : decide (v9 < 0) = true := decide_eq_true hneg
              have HSIGN : Hid (s3.sign = s3.addR t t (-2)) := Lib.hid (by unfold S.sign; rw [h3t, if_pos (by rw [← hv9]; exact hneg)])
              have HR0 : Hid (Rect (s3.mat 0) r n) := Lib.hid hb4.sh.ra
              have HR1 : Hid (Rect (s3.mat 1) r r) := Lib.hid hb4.sh.ru
              have HBD0 : Hid (∀ j, -1000000000 ≤ ent (s3.mat 0) t j ∧ ent (s3.mat 0) t j ≤ 1000000000) := Lib.hid fun j => hb4.toBase.bda t j
              have HBD1 : Hid (∀ j, -1000000000 ≤ ent (s3.mat 1) t j ∧ ent (s3.mat 1) t j ≤ 1000000000) := Lib.hid fun j => hb4.toBase.bdu t j
              clear hRUN hrs hfn hb3 hr3 hm3 hm2 hsp hm4 hb4 hr4 hb5 hr5 hv9
              go_wp2_with (first | (go_at_call 78; (refine (H58.out _ H1.out (Nat.le_trans hbw H2.out.size)).mono ?_); rintro e w2 ⟨rfl, h3, h4⟩; have H3 := Lib.hid h3; have H4 := Lib.hid (H2.out.trans h4); have hc3 := h3.cell3.1; clear h3 h4) | (go_at_call 79; (refine (H59.out _ H3.out (Nat.le_trans hbw H4.out.size)).mono ?_); rintro e w3 ⟨rfl, h5, h6⟩; have H5 := Lib.hid h5; have H6 := Lib.hid (H4.out.trans h6); have hc5 := h5.cell3.1; clear h5 h6; obtain ⟨g, d, bt, ct, k1, k2, k3, k4, k5, k6, k7, k8⟩ := H5.out.look HSGN.out.sh ht htn; have hk5 : (n : Int) ≤ (ct : Int) := (by omega); rw [← HV9.out] at k4))
              clear k1 k2 k3 k4 k6 k7 k8 hk5 hd9
              obtain ⟨vs, bl, cs, hM⟩ := H5.out
              have HM0 : Hid (WkM 86 b base w3 (addTo s3 t t (-2) 0) (.bool false) vs bl cs ∧ Chb b base w w3) := Lib.hid ⟨hM, H6.out⟩
              clear hM hc5
              go_loopw [6] (fun z wr => ∃ j : Nat, j ≤ n ∧ z = .int .i64 j ∧ Hid (WkM 86 b base wr ((addTo s3 t t (-2) 0).setMat 0 (mixM (s3.mat 0) t t (-2) j)) (.bool false) vs bl cs ∧ Chb b base w wr)) (fun z _ => n - (intOf z).toNat)
              case atStart => exact ⟨0, by omega, rfl, Lib.hid ⟨by rw [mixM_zero HR0.out ht, ← addTo_mat s3 t t (-2) (c := 0) (by omega), setMat_self]; exact HM0.out.1, HM0.out.2⟩⟩
              case round =>
                obtain ⟨j, hj, rfl, HQ⟩ := hrel
                have hj0 : (0 : Int) ≤ (j : Int) := Int.natCast_nonneg _
                have hm : ((addTo s3 t t (-2) 0).setMat 0 (mixM (s3.mat 0) t t (-2) j)).mat 0 = mixM (s3.mat 0) t t (-2) j := mat_set_self _ _ _
                have hml : (mixM (s3.mat 0) t t (-2) j).length = r := by rw [mixM_length]; exact HR0.out.1
                have hmr : ∀ p, p < r → ((mixM (s3.mat 0) t t (-2) j).getD p []).length = n := fun p hp => by rw [mixM_row HR0.out ht ht]; exact rect_row HR0.out hp
                obtain ⟨c0, c1, c2, c3, c4⟩ := HQ.out.1.cells
                obtain ⟨g, d, hv, hg1, -, -⟩ := HQ.out.1.row_at (k := 0) (i := t) (by omega) (by rw [hm, hml]; exact ht)
                rw [hm, hml] at hv
                rw [hm, hmr t ht] at hg1
                rw [hv] at c0
                have hcc1 := (HQ.out.1.row 0 t (by omega) (by rw [hm, hml]; exact ht)).2.2
                rw [hm, hmr t ht] at hcc1
                obtain ⟨hcc1a, hcc1b⟩ := hcc1
                clear hv c1 c2 c3
                by_cases hjl : j < n
                · have hjl' : (j : Int) < (n : Int) := by omega
                  obtain ⟨hq2, hq3⟩ := HQ.out.1.ent_at (k := 0) (i := t) (j := j) (by omega) (by rw [hm, hml]; exact ht) (by rw [hm, hmr t ht]; exact hjl)
                  rw [hm, mixM_ent HR0.out ht ht] at hq2
                  have hset := HQ.out.1.set (k := 0) (i := t) (j := j) (by omega) (by rw [hm, hml]; exact ht) (by rw [hm, hmr t ht]; exact hjl) (ent (s3.mat 0) t j + -2 * ent (s3.mat 0) t j)
                  rw [hm, setMat_setMat, put_mixM HR0.out ht ht hjl, show ent (s3.mat 0) t j + -2 * ent (s3.mat 0) t j = -(ent (s3.mat 0) t j) by omega] at hset
                  obtain ⟨D, hD⟩ := HQ.out.1.row_ty (k := 0) (i := t) (by omega) (by rw [hm, hml]; exact ht)
                  have hbel := HQ.out.2.setRow HQ.out.1 (k := 0) (i := t) (by omega) (by rw [hm, hml]; exact ht) j (.int .i64 (-(ent (s3.mat 0) t j)))
                  have HN := Lib.hid (And.intro hset hbel)
                  have hbd := HBD0.out j
                  clear hm hml hmr hset hD hbel
                  generalize ent (s3.mat 0) t j = z at *
                  generalize bl 0 t = bi at *
                  generalize cs 0 t = ci at *
                  have hwz : IntKind.i64.wrap (-z) = -z := IntWalk.i64_in _ (by omega)
                  go_wp2_with fail
                  go_region
                  go_wp2_with fail
                  go_roundw
                  case rel => exact ⟨j + 1, by omega, by go_num, Lib.hid ⟨HN.out.1.drewN 1, HN.out.2.drewN 1⟩⟩
                  case measure => simp [intOf]; omega
                · obtain rfl : n = j := by omega
                  have HM1 : Hid (WkM 86 b base wr (addTo s3 t t (-2) 1) (.bool false) vs bl cs ∧ Chb b base w wr) := Lib.hid ⟨by have := HQ.out.1; rw [mixM_full HR0.out ht ht (Nat.le_refl _), addTo_succ s3 t t (-2) (by omega)] at this; exact this, HQ.out.2⟩
                  clear hm hml hmr
                  go_wp2_with fail
                  go_loopw [7] (fun z wr => ∃ j : Nat, j ≤ r ∧ z = .int .i64 j ∧ Hid (WkM 86 b base wr ((addTo s3 t t (-2) 1).setMat 1 (mixM (s3.mat 1) t t (-2) j)) (.bool false) vs bl cs ∧ Chb b base w wr)) (fun z _ => r - (intOf z).toNat)
                  case atStart => exact ⟨0, by omega, rfl, Lib.hid ⟨by rw [mixM_zero HR1.out ht, ← addTo_mat s3 t t (-2) (c := 1) (by omega), setMat_self]; exact HM1.out.1, HM1.out.2⟩⟩
                  case round =>
                    obtain ⟨j, hj, rfl, HQ⟩ := hrel
                    have hj0 : (0 : Int) ≤ (j : Int) := Int.natCast_nonneg _
                    have hm : ((addTo s3 t t (-2) 1).setMat 1 (mixM (s3.mat 1) t t (-2) j)).mat 1 = mixM (s3.mat 1) t t (-2) j := mat_set_self _ _ _
                    have hml : (mixM (s3.mat 1) t t (-2) j).length = r := by rw [mixM_length]; exact HR1.out.1
                    have hmr : ∀ p, p < r → ((mixM (s3.mat 1) t t (-2) j).getD p []).length = r := fun p hp => by rw [mixM_row HR1.out ht ht]; exact rect_row HR1.out hp
                    obtain ⟨c0, c1, c2, c3, c4⟩ := HQ.out.1.cells
                    obtain ⟨g, d, hv, hg1, -, -⟩ := HQ.out.1.row_at (k := 1) (i := t) (by omega) (by rw [hm, hml]; exact ht)
                    rw [hm, hml] at hv
                    rw [hm, hmr t ht] at hg1
                    rw [hv] at c1
                    have hcc1 := (HQ.out.1.row 1 t (by omega) (by rw [hm, hml]; exact ht)).2.2
                    rw [hm, hmr t ht] at hcc1
                    obtain ⟨hcc1a, hcc1b⟩ := hcc1
                    clear hv c0 c2 c3
                    by_cases hjl : j < r
                    · have hjl' : (j : Int) < (r : Int) := by omega
                      obtain ⟨hq2, hq3⟩ := HQ.out.1.ent_at (k := 1) (i := t) (j := j) (by omega) (by rw [hm, hml]; exact ht) (by rw [hm, hmr t ht]; exact hjl)
                      rw [hm, mixM_ent HR1.out ht ht] at hq2
                      have hset := HQ.out.1.set (k := 1) (i := t) (j := j) (by omega) (by rw [hm, hml]; exact ht) (by rw [hm, hmr t ht]; exact hjl) (ent (s3.mat 1) t j + -2 * ent (s3.mat 1) t j)
                      rw [hm, setMat_setMat, put_mixM HR1.out ht ht hjl, show ent (s3.mat 1) t j + -2 * ent (s3.mat 1) t j = -(ent (s3.mat 1) t j) by omega] at hset
                      obtain ⟨D, hD⟩ := HQ.out.1.row_ty (k := 1) (i := t) (by omega) (by rw [hm, hml]; exact ht)
                      have hbel := HQ.out.2.setRow HQ.out.1 (k := 1) (i := t) (by omega) (by rw [hm, hml]; exact ht) j (.int .i64 (-(ent (s3.mat 1) t j)))
                      have HN := Lib.hid (And.intro hset hbel)
                      have hbd := HBD1.out j
                      clear hm hml hmr hset hD hbel
                      generalize ent (s3.mat 1) t j = z at *
                      generalize bl 1 t = bi at *
                      generalize cs 1 t = ci at *
                      have hwz : IntKind.i64.wrap (-z) = -z := IntWalk.i64_in _ (by omega)
                      go_wp2_with fail
                      go_region
                      go_wp2_with fail
                      go_roundw
                      case rel => exact ⟨j + 1, by omega, by go_num, Lib.hid ⟨HN.out.1.drewN 1, HN.out.2.drewN 1⟩⟩
                      case measure => simp [intOf]; omega
                    · obtain rfl : r = j := by omega
                      have HM2 : Hid (WkM 86 b base wr (addTo s3 t t (-2) 2) (.bool false) vs bl cs ∧ Chb b base w wr) := Lib.hid ⟨by have := HQ.out.1; rw [mixM_full HR1.out ht ht (Nat.le_refl _), addTo_succ s3 t t (-2) (by omega)] at this; exact this, HQ.out.2⟩
                      clear hm hml hmr
                      go_wp2_with fail
                      go_ret
                      exact .inr (.inr ⟨_, _, rfl, HNX.out.1, HNX.out.2.1, HNX.out.2.2, ⟨vs, bl, cs, by have h := HM2.out.1; rw [show addTo s3 t t (-2) 2 = s3.addR t t (-2) from rfl, ← HSIGN.out] at h; exact h.of rfl rfl rfl⟩, HM2.out.2⟩)
            · have hd9 : decide (v9 < 0) = false := decide_eq_false hneg
              have HSIGN : Hid (s3.sign = s3) := Lib.hid (by unfold S.sign; rw [h3t, if_neg (by rw [← hv9]; exact hneg)])
              clear hRUN hrs hfn hb3 hr3 hm3 hm2 hsp hm4 hb4 hr4 hb5 hr5 hv9
              go_wp2_with (first | (go_at_call 78; (refine (H58.out _ H1.out (Nat.le_trans hbw H2.out.size)).mono ?_); rintro e w2 ⟨rfl, h3, h4⟩; have H3 := Lib.hid h3; have H4 := Lib.hid (H2.out.trans h4); have hc3 := h3.cell3.1; clear h3 h4) | (go_at_call 79; (refine (H59.out _ H3.out (Nat.le_trans hbw H4.out.size)).mono ?_); rintro e w3 ⟨rfl, h5, h6⟩; have H5 := Lib.hid h5; have H6 := Lib.hid (H4.out.trans h6); have hc5 := h5.cell3.1; clear h5 h6; obtain ⟨g, d, bt, ct, k1, k2, k3, k4, k5, k6, k7, k8⟩ := H5.out.look HSGN.out.sh ht htn; have hk5 : (n : Int) ≤ (ct : Int) := (by omega); rw [← HV9.out] at k4))
              go_ret
              exact .inr (.inr ⟨_, _, rfl, HNX.out.1, HNX.out.2.1, HNX.out.2.2, by rw [HSIGN.out]; obtain ⟨vs, bl, cs, hM⟩ := H5.out; exact ⟨vs, bl, cs, hM.of rfl rfl rfl⟩, H6.out⟩)
    · have HON := Lib.hid hon
      have HW := Lib.hid hW
      have HCH := Lib.hid hC
      have hc0 := hW.cell3.1
      clear hon hW hC
      go_wp2_with fail
      go_ret
      exact .inr (.inl ⟨σ, rfl, HON.out, HW.out, HCH.out⟩)
end Go.Proofs
