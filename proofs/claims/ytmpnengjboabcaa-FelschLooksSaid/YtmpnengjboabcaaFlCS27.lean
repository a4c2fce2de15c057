/- The reference of lookahead: fill and columns; The reference of lookahead: columns. -/
import Derived.Test.YtmpnengjboabcaaFlCS26
import Derived.Test.YtmpnengjboabcaaFlCS23
import Derived.Test.YtmpnengjboabcaaFlCS16
import Derived.Test.YtmpnengjboabcaaFlCS15
namespace Go.Proofs
open Go.RowKit Go.Shelf Go.Proofs.Ct Go.Maps
def looksR (bx : Nat) (w : World) : Nat := match w.cell? ⟨bx, 5, none⟩ with
  | some (.int _ z) => z.toNat
  | _ => 0
def lpotR (lim b bx : Nat) (w : World) : Nat := (50 - looksR bx w) * (lim + 2) + (lim - rowsG b w) + 1
theorem LkR.pot {vr : Value} {g base b bx lim : Nat} {w : World} {x : LS} (h : LkR vr g base b bx lim w x) : lpotR lim b bx w = lpot lim x := by
  obtain ⟨A, c, h1⟩ := h.1.top.1
  have h2 := h.2.2.1.cells.2.2.2.2.2.1
  unfold lpotR lpot looksR Go.Proofs.rowsG
  rw [h1, h2]
  simp
theorem fld179_0 (b : Nat) (w : World) : (Instr.fieldAt 179 (.pointer (some ⟨b, 0, none⟩)) 0).run Try.prog w = .ok (.pointer (some ⟨b, 0, none⟩)) w := by kernel_rfl
theorem fld179_2 (b : Nat) (w : World) : (Instr.fieldAt 179 (.pointer (some ⟨b, 0, none⟩)) 2).run Try.prog w = .ok (.pointer (some ⟨b, 3, none⟩)) w := by kernel_rfl
theorem call203 (args : Array Value) (w : World) : (callFunc 203 args).run Try.prog w = .ok (.enter 203 args) w := enters_of Try.func203 (by kernel_rfl) rfl args w
theorem agg126 (w : World) : (isAgg 126).run Try.prog w = .ok false w := by kernel_rfl
theorem room204_any (vr : Value) (g m base b bx lim : Nat) (hm : m = 2 * g) (hg1 : 1 ≤ g) (hg16 : g ≤ 16) (w : World) (x : LS) (rels : List W) (hS : LkR vr g base b bx lim w x) (hG : LGood g lim x) (hbw : base ≤ w.heap.size) (hx : x.r < x.s.t.length) (hlo : x.lost = false) (hl : lim ≤ x.s.t.length) (hrl : rels.length ≤ 100000)
    (hv : Words base w vr rels) (hr : ∀ j, LOk g (rels.getD j [])) :
    Calls Try.prog 204 #[.pointer (some ⟨bx, 0, none⟩)] w fun e w' => ((∃ y, roomL m rels x = some y ∧ e = .returned (.bool true) ∧ LkR vr g base b bx lim w' y) ∨ (roomL m rels x = none ∧ e = .returned (.bool false))) ∧ Below base w w' := by
  by_cases h50 : x.looks = 50
  · refine (room204_last vr g base b bx lim w x hS hl h50).mono fun e w' ⟨h1, q, h2⟩ => ⟨.inr ⟨by unfold roomL; rw [if_pos h50], h1⟩, ?_⟩
    rw [h2]
    exact below_drewN (Below.refl _ _) _
  · exact room204_full vr g m base b bx lim hm hg1 hg16 w x rels hS hG hbw hx hlo hl (by have := hG.lk; omega) hrl hv hr
theorem Words.later {base : Nat} {w w' : World} {v : Value} {l : List W} (h : Words base w v l) (hb : Below base w w') : Words base w' v l := by
  obtain ⟨w0, h1, h2, h3⟩ := h
  exact ⟨w0, h1, h2, h3.trans hb⟩
set_option maxRecDepth 100000 in
set_option maxHeartbeats 4000000 in
theorem fill158_any (vr : Value) (g m base b bx lim : Nat) (hm : m = 2 * g) (hg1 : 1 ≤ g) (hg16 : g ≤ 16) (w : World) (x : LS) (rels : List W) (u : Value) (ws : W) (hS : LkR vr g base b bx lim w x) (hG : LGood g lim x) (hLL : LLive x) (hbw : base ≤ w.heap.size) (hlim : lim ≤ 1000) (hrl : rels.length ≤ 100000)
    (hv : Words base w vr rels) (hr : ∀ j, LOk g (rels.getD j [])) (hu : ∀ W, Below base w W → IntsAt W u ws) (hl : LOk g ws) :
    Calls Try.prog 158 #[.pointer (some ⟨bx, 0, none⟩), u] w fun e w' => ((∃ y, Ct.fillL m lim rels x ws = some y ∧ e = .returned (.bool true) ∧ LkR vr g base b bx lim w' y) ∨ (Ct.fillL m lim rels x ws = none ∧ e = .returned (.bool false))) ∧ Below base w w' := by
  have HREL : Hid (LkR vr g base b bx lim w x ∧ LGood g lim x ∧ LLive x) := Lib.hid ⟨hS, hG, hLL⟩
  generalize hfe : Ct.fillL m lim rels x ws = F at *
  have HBW := Lib.hid hbw
  have HVV := Lib.hid hv
  have HRR := Lib.hid hr
  have HUU := Lib.hid hu
  have HL := Lib.hid hl
  have HM := Lib.hid hm
  have HRLL := Lib.hid hrl
  clear hG hS hLL hu hl hbw hv hr hrl
  have HFE := Lib.hid hfe
  clear hfe
  go_enter Try.func158, Try.ntmps158
  go_wp2_with fail
  go_loopw [] (fun wr => ∃ y : LS, Hid (LkR vr g base b bx lim wr y ∧ LGood g lim y ∧ LLive y) ∧ Hid (Ct.fillL m lim rels y ws = F) ∧ Hid (Below base w wr)) (fun wr => lpotR lim b bx wr)
  case atStart => exact ⟨x, HREL, HFE, Lib.hid (Below.refl _ _)⟩
  case round =>
    obtain ⟨y, HI, HF1, HB⟩ := hrel
    clear HREL HFE
    have hstep := fillL_step (rels := rels) (w := ws) (fun j _ => HRR.out j) HL.out HI.out.2.1 HI.out.2.2
    rw [← HM.out, HF1.out] at hstep
    have HPOT : Hid (lpotR lim b bx wr = lpot lim y) := Lib.hid HI.out.1.pot
    obtain ⟨hst, hbb, hbx, hrm, hn1⟩ := HI.out.1
    obtain ⟨x0, -, -, x3, -, -, -⟩ := hbx.cells
    cases hlo : y.lost with
    | true =>
      have hrL : rL y = -1 - (y.r : Int) := if_pos hlo
      rw [hrL] at x3
      have hneg : ¬ (0 : Int) ≤ -1 - (y.r : Int) := by omega
      have HE : Hid (F = some y) := Lib.hid (by rw [hstep, if_pos hlo])
      clear hstep hst hbx hrm hrL
      generalize -1 - (y.r : Int) = z at *
      go_wp2_with fail
      go_ret
      exact ⟨.inl ⟨y, HE.out, (by first | rfl | trivial), HI.out.1⟩, HB.out⟩
    | false =>
      have hrL : rL y = (y.r : Int) := if_neg (by rw [hlo]; simp)
      rw [hrL] at x3
      rw [if_neg (by rw [hlo]; simp)] at hstep
      obtain ⟨hrn, hrl2⟩ := HI.out.2.2 hlo
      have hR := HI.out.2.1.good.rest
      obtain ⟨k1, k2⟩ := scan_rest hR hrn hrl2 HL.out
      rw [← HM.out] at k1 k2
      have hr0 : (0 : Int) ≤ (y.r : Int) := Int.natCast_nonneg _
      have HKW : Hid (Below base w wr.drew) := Lib.hid HB.out.drew
      have HCX : Hid (wr.drew.cell? ⟨bx, 0, none⟩ = some (.pointer (some ⟨b, 0, none⟩)) ∧ wr.drew.cell? ⟨bx, 3, none⟩ = some (.int .i64 (y.r : Int))) := Lib.hid ⟨x0, x3⟩
      have HLX : Hid (BoxL bx b g vr (y.r : Int) y.removed y.looks wr.drew) := Lib.hid (by rw [← hrL]; exact hbx.keep rfl)
      have hsc1 := scan150_any g m base b lim y.r HM.out hg16 wr.drew y.s u ws hR (hst.below (Below.refl _ _).drew) (Nat.le_trans HBW.out HKW.out.size) (by omega) (HUU.out _ HKW.out) HL.out hrn hrl2
      cases hsc : scanS m y.s y.r ws with
      | mk s2 o =>
        rw [hsc] at hsc1 hstep
        simp only at hsc1
        have hoc : ∃ (va vc : Int) (vd ve : Bool), openR (outM y.s y.r ws) = .tuple #[.int .i64 va, .int .i64 vc, .bool vd, .bool ve] ∧ ((o = none ∧ vd = false) ∨ ∃ z c : Nat, o = some (z, c) ∧ va = z ∧ vc = c ∧ vd = true) := by
          cases o with
          | none =>
            obtain ⟨a, c, d, ho⟩ := outM_none hsc
            exact ⟨a, c, false, d, by rw [ho]; rfl, .inl ⟨rfl, rfl⟩⟩
          | some p =>
            obtain ⟨z, c⟩ := p
            exact ⟨z, c, true, false, by rw [outM_some hsc]; rfl, .inr ⟨z, c, rfl, rfl, rfl, rfl⟩⟩
        obtain ⟨va, vc, vd, ve, hov, hoc⟩ := hoc
        have HSC : Hid (Calls Try.prog 203 #[.pointer (some ⟨b, 0, none⟩), .int .i64 (y.r : Int), u] wr.drew fun e w' => e = .returned (.tuple #[.int .i64 va, .int .i64 vc, .bool vd, .bool ve]) ∧ StR base b lim w' s2 ∧ Kf base wr.drew w') := Lib.hid (by rw [← hov]; exact hsc1)
        clear hsc1 hov
        go_wp2_with fail
        obtain ⟨w0, hw0⟩ : ∃ w0, w0 = wr.drew := ⟨_, rfl⟩
        rw [← hw0] at HSC HCX HKW HLX
        refine (wpIn_wide (n := 3)).1 ?_
        refine wpIn_region_all (by kernel_rfl) 19 rfl (fun i => ([some 15, some 16, some 17, some 18, some 19, some 20, some 21, some 22, some 23, some 24, some 14, some 25, some 26, some 27, some 28, some 5, some 6, some 7, some 8] : List (Option Nat)).getD i none) (lex_of (by kernel_rfl)) (fun ls W => (ls 9 = false → W = w0) ∧ (ls 9 = true → StR base b lim W s2 ∧ Kf base w0 W)) (fun i v _ => v = ([.pointer (some ⟨bx, 0, none⟩), .pointer (some ⟨bx, 0, none⟩), .pointer (some ⟨bx, 0, none⟩), .pointer (some ⟨b, 0, none⟩), .pointer (some ⟨bx, 0, none⟩), .pointer (some ⟨bx, 0, none⟩), .pointer (some ⟨bx, 3, none⟩), .int .i64 (y.r : Int), u, .tuple #[.int .i64 va, .int .i64 vc, .bool vd, .bool ve], .tuple #[.int .i64 va, .int .i64 vc, .bool vd, .bool ve], .int .i64 va, .int .i64 vc, .bool vd, .bool ve, .int .i64 va, .int .i64 vc, .bool vd, .bool ve] : List Value).getD i undef) (fun _ _ _ => True) (dm_inj (by kernel_rfl)) (fun _ _ _ _ _ _ _ _ _ h => h) (dm_lt (n := 57) (by kernel_rfl)) ⟨fun _ => hw0.symm, (fun h => by cases h)⟩ ?_ ?_
        · intro ls q o a w2 hq ho hS2 hls hcl hP hpre
          have hcases : q = 0 ∨ q = 1 ∨ q = 2 ∨ q = 3 ∨ q = 4 ∨ q = 5 ∨ q = 6 ∨ q = 7 ∨ q = 8 ∨ q = 9 ∨ q = 10 ∨ q = 11 ∨ q = 12 ∨ q = 13 ∨ q = 14 ∨ q = 15 ∨ q = 16 ∨ q = 17 ∨ q = 18 := by
            have : q < 19 := hq
            omega
          rcases hcases with rfl | rfl | rfl | rfl | rfl | rfl | rfl | rfl | rfl | rfl | rfl | rfl | rfl | rfl | rfl | rfl | rfl | rfl | rfl
          · obtain rfl := Option.some.inj ho
            exact wpOpIn_of rfl rfl (wpW_val (r_move (.tmp 0) rfl (hP.out 0 (dm_out (by kernel_rfl)))) ⟨_, rfl, hS2, trivial, (fun h => by simp at h), rfl⟩)
          · obtain rfl := Option.some.inj ho
            exact wpOpIn_of rfl rfl (wpW_val (r_nil (.tmp 15) _ rfl (hpre ⟨0, .data⟩ (by simp) rfl).2) ⟨_, rfl, hS2, trivial, (fun h => by simp at h), rfl⟩)
          · obtain rfl := Option.some.inj ho
            exact wpOpIn_of rfl rfl (wpW_val (r_fld (.tmp 16) _ rfl (hpre ⟨1, .data⟩ (by simp) rfl).2 (fld179_0 bx _)) ⟨_, rfl, hS2, trivial, (fun h => by simp at h), rfl⟩)
          · obtain rfl := Option.some.inj ho
            have h9 := not_yet hcl 9 rfl ⟨3, .data⟩ (by simp) rfl hls
            obtain rfl := hS2.1 h9
            exact wpOpIn_of rfl rfl (wpW_val (r_load1 126 agg126 (.tmp 17) ⟨bx, 0, none⟩ rfl (hpre ⟨2, .data⟩ (by simp) rfl).2 HCX.out.1) ⟨_, rfl, hS2, trivial, (fun h => by simp at h), rfl⟩)
          · obtain rfl := Option.some.inj ho
            exact wpOpIn_of rfl rfl (wpW_val (r_move (.tmp 0) rfl (hP.out 0 (dm_out (by kernel_rfl)))) ⟨_, rfl, hS2, trivial, (fun h => by simp at h), rfl⟩)
          · obtain rfl := Option.some.inj ho
            exact wpOpIn_of rfl rfl (wpW_val (r_nil (.tmp 19) _ rfl (hpre ⟨4, .data⟩ (by simp) rfl).2) ⟨_, rfl, hS2, trivial, (fun h => by simp at h), rfl⟩)
          · obtain rfl := Option.some.inj ho
            exact wpOpIn_of rfl rfl (wpW_val (r_fld (.tmp 20) _ rfl (hpre ⟨5, .data⟩ (by simp) rfl).2 (fld179_2 bx _)) ⟨_, rfl, hS2, trivial, (fun h => by simp at h), rfl⟩)
          · obtain rfl := Option.some.inj ho
            have h9 := not_yet hcl 9 rfl ⟨7, .data⟩ (by simp) rfl hls
            obtain rfl := hS2.1 h9
            exact wpOpIn_of rfl rfl (wpW_val (r_load1 3 agg3 (.tmp 21) ⟨bx, 3, none⟩ rfl (hpre ⟨6, .data⟩ (by simp) rfl).2 HCX.out.2) ⟨_, rfl, hS2, trivial, (fun h => by simp at h), rfl⟩)
          · obtain rfl := Option.some.inj ho
            exact wpOpIn_of rfl rfl (wpW_val (r_move (.tmp 1) rfl (hP.out 1 (dm_out (by kernel_rfl)))) ⟨_, rfl, hS2, trivial, (fun h => by simp at h), rfl⟩)
          · obtain rfl := Option.some.inj ho
            obtain rfl := hS2.1 hls
            exact wpOpIn_of rfl rfl (wpW_call (R := fun v w' => v = .tuple #[.int .i64 va, .int .i64 vc, .bool vd, .bool ve] ∧ StR base b lim w' s2 ∧ Kf base w2 w') (r_call3 (.tmp 18) (.tmp 22) (.tmp 23) _ _ _ _ rfl (hpre ⟨3, .data⟩ (by simp) rfl).2 (hpre ⟨7, .data⟩ (by simp) rfl).2 (hpre ⟨8, .data⟩ (by simp) rfl).2 call203) (HSC.out.mono fun e w' ⟨he, hb⟩ => ⟨_, he, rfl, hb⟩) (fun v w'' ⟨hv, hw⟩ => ⟨v, rfl, ⟨fun h => by simp at h, fun _ => hw⟩, trivial, (fun h => by simp at h), hv⟩))
          · obtain rfl := Option.some.inj ho
            exact wpOpIn_of rfl rfl (wpW_val (r_move (.tmp 24) rfl (hpre ⟨9, .data⟩ (by simp) rfl).2) ⟨_, rfl, hS2, trivial, (fun h => by simp at h), rfl⟩)
          · obtain rfl := Option.some.inj ho
            exact wpOpIn_of rfl rfl (wpW_val (r_extract 0 (.tmp 14) _ rfl (hpre ⟨10, .data⟩ (by simp) rfl).2 rfl) ⟨_, rfl, hS2, trivial, (fun h => by simp at h), rfl⟩)
          · obtain rfl := Option.some.inj ho
            exact wpOpIn_of rfl rfl (wpW_val (r_extract 1 (.tmp 14) _ rfl (hpre ⟨10, .data⟩ (by simp) rfl).2 rfl) ⟨_, rfl, hS2, trivial, (fun h => by simp at h), rfl⟩)
          · obtain rfl := Option.some.inj ho
            exact wpOpIn_of rfl rfl (wpW_val (r_extract 2 (.tmp 14) _ rfl (hpre ⟨10, .data⟩ (by simp) rfl).2 rfl) ⟨_, rfl, hS2, trivial, (fun h => by simp at h), rfl⟩)
          · obtain rfl := Option.some.inj ho
            exact wpOpIn_of rfl rfl (wpW_val (r_extract 3 (.tmp 14) _ rfl (hpre ⟨10, .data⟩ (by simp) rfl).2 rfl) ⟨_, rfl, hS2, trivial, (fun h => by simp at h), rfl⟩)
          · obtain rfl := Option.some.inj ho
            exact wpOpIn_of rfl rfl (wpW_val (r_assign (.tmp 25) rfl (hpre ⟨11, .data⟩ (by simp) rfl).2) ⟨_, rfl, hS2, trivial, (fun h => by simp at h), rfl⟩)
          · obtain rfl := Option.some.inj ho
            exact wpOpIn_of rfl rfl (wpW_val (r_assign (.tmp 26) rfl (hpre ⟨12, .data⟩ (by simp) rfl).2) ⟨_, rfl, hS2, trivial, (fun h => by simp at h), rfl⟩)
          · obtain rfl := Option.some.inj ho
            exact wpOpIn_of rfl rfl (wpW_val (r_assign (.tmp 27) rfl (hpre ⟨13, .data⟩ (by simp) rfl).2) ⟨_, rfl, hS2, trivial, (fun h => by simp at h), rfl⟩)
          · obtain rfl := Option.some.inj ho
            exact wpOpIn_of rfl rfl (wpW_val (r_assign (.tmp 28) rfl (hpre ⟨14, .data⟩ (by simp) rfl).2) ⟨_, rfl, hS2, trivial, (fun h => by simp at h), rfl⟩)
        intro ls a w1 hall hS2 hP hsl
        obtain ⟨hs1, hb1⟩ := hS2.2 (hall 9 (by decide))
        obtain ⟨vs, hvs, hfr⟩ := hP.frame 57 rfl
        have hv5 : vs 5 = .int .i64 va := (hvs 5).trans (hsl 15 (by decide))
        have hv6 : vs 6 = .int .i64 vc := (hvs 6).trans (hsl 16 (by decide))
        have hv7 : vs 7 = .bool vd := (hvs 7).trans (hsl 17 (by decide))
        have HX1 := Lib.hid (HLX.out.kf hb1)
        have HS1 := Lib.hid hs1
        have HB1 := Lib.hid (HKW.out.trans hb1.1)
        clear hsl hP hall hS2 hvs hs1 hb1
        subst hfr
        dsimp only
        simp only [List.range, List.range.loop, List.map_cons, List.map_nil, List.any_cons, List.any_nil, Nat.reduceBEq, Option.some_beq_some, Bool.or_false, Bool.false_or, Bool.false_eq_true, if_true, if_false, List.getD_cons_zero, List.getD_cons_succ, hv5, hv6, hv7]
        clear hv5 hv6 hv7
        rcases hoc with ⟨rfl, rfl⟩ | ⟨z, c, rfl, rfl, rfl, rfl⟩
        · have HE : Hid (F = some { y with s := s2 }) := Lib.hid hstep
          have hk1 := k1 _ hsc
          have HLK : Hid (LkR vr g base b bx lim w1 { y with s := s2 }) := Lib.hid ⟨HS1.out, hbb, by
            have h : rL { y with s := s2 } = (y.r : Int) := hrL
            rw [h]
            exact HX1.out, hrm, by show s2.t.length ≤ 1000; rw [hk1.2.2.1]; exact hn1⟩
          clear k1 k2 hstep HSC hst hbx hrm hR hk1 hsc hrL x0 x3
          go_wp2_with fail
          go_ret
          exact ⟨.inl ⟨_, HE.out, (by first | rfl | trivial), HLK.out⟩, HB1.out⟩
        · obtain ⟨rfl, j1, j2, j3, j4⟩ := k2 _ _ _ hsc
          have hcm : c < m := by rw [HM.out]; rw [← HM.out]; exact j2
          have HLK : Hid (LkR vr g base b bx lim w1 y) := Lib.hid ⟨HS1.out, hbb, by rw [hrL]; exact HX1.out, hrm, hn1⟩
          obtain ⟨x0, -, -, -, -, -, -⟩ := HX1.out.cells
          obtain ⟨⟨A, cA, d0⟩, d3, -⟩ := HS1.out.top
          have hnI : (y.s.t.length : Int) ≤ 1000 := by omega
          have hn0 : (0 : Int) ≤ (y.s.t.length : Int) := Int.natCast_nonneg _
          have hlmI : (lim : Int) ≤ 1000 := by omega
          have HKD : Hid (∀ q, LkR vr g base b bx lim (w1.drewN q) y ∧ Below base w (w1.drewN q)) := Lib.hid fun q => ⟨HLK.out.below (below_drewN (Below.refl _ _) q), below_drewN HB1.out q⟩
          by_cases hfull : y.s.t.length < lim
          · have hfI : ¬ (lim : Int) ≤ (y.s.t.length : Int) := by omega
            have HE : Hid (Ct.fillL m lim rels { y with s := defS m y.s z c } ws = F) := Lib.hid (by rw [hstep]; exact (if_pos hfull).symm)
            obtain ⟨d1, d2, d3'⟩ := HI.out.2.1.defn j1 (by rw [← HM.out]; exact hcm) j3 j4 hfull
            rw [← HM.out] at d1 d2 d3'
            have HD : Hid (∀ q, Calls Try.prog 178 #[.pointer (some ⟨b, 0, none⟩), .int .i64 (z : Int), .int .i64 (c : Int)] (w1.drewN q) fun e w' => e = .returned (.bool true) ∧ LkR vr g base b bx lim w' { y with s := defS m y.s z c } ∧ Below base w w') := Lib.hid fun q =>
              (define132_any g m base b lim z c HM.out hg16 hg1 (w1.drewN q) y.s hR (HKD.out q).1.1 (Nat.le_trans HBW.out (HKD.out q).2.size) (by omega) j1 hcm hfull).mono fun e w' ⟨h1, h2, h3⟩ => ⟨h1, ⟨h2, hbb, by
                have h : rL { y with s := defS m y.s z c } = rL y := rfl
                rw [h]
                exact (HKD.out q).1.2.2.1.kf h3, hrm, by show (defS m y.s z c).t.length ≤ 1000; rw [length_def]; omega⟩, (HKD.out q).2.trans h3.1⟩
            have HN : Hid (LGood g lim { y with s := defS m y.s z c } ∧ LLive { y with s := defS m y.s z c } ∧ lpot lim { y with s := defS m y.s z c } < lpot lim y) := Lib.hid ⟨d1, d2 HI.out.2.2, d3'⟩
            clear k1 k2 hstep HSC hsc hst hbx hrm hR hrL j1 j2 j3 j4 hcm d1 d2 d3' hfull hrn hrl2 x3
            generalize hy2 : ({ y with s := defS m y.s z c } : LS) = y2 at *
            clear hy2
            go_wp2_with fail
            go_quiet (fail)
            go_wp2_with (go_at_call 178; (with_reducible refine (HD.out _).mono ?_); rintro E w3 ⟨rfl, hs3, hb3⟩
                         have HS3 := Lib.hid hs3
                         have HB3 := Lib.hid hb3
                         clear hs3 hb3)
            go_roundw
            case rel => exact ⟨y2, Lib.hid ⟨HS3.out, HN.out.1, HN.out.2.1⟩, HE, HB3⟩
            case measure =>
              rw [HPOT.out, HS3.out.pot]
              exact HN.out.2.2
          · have hfI : (lim : Int) ≤ (y.s.t.length : Int) := by omega
            have HRM := Lib.hid (fun q => room204_any vr g m base b bx lim HM.out hg1 hg16 (w1.drewN q) y rels (HKD.out q).1 HI.out.2.1 (Nat.le_trans HBW.out (HKD.out q).2.size) hrn hlo (by omega) HRLL.out (HVV.out.later (HKD.out q).2) HRR.out)
            have hgood := fun y1 h => room_good (rels := rels) (fun j _ => HRR.out j) HI.out.2.1 hrn (y := y1) h
            have hpot := fun y1 h => room_pot (rels := rels) (fun j _ => HRR.out j) HI.out.2.1 hrn (y := y1) h
            rw [← HM.out] at hgood hpot
            simp only [if_neg hfull] at hstep
            cases hroom : roomL m rels y with
            | none =>
              rw [hroom] at HRM hstep
              have HE : Hid (F = none) := Lib.hid hstep
              have HRM' : Hid (∀ q, Calls Try.prog 204 #[.pointer (some ⟨bx, 0, none⟩)] (w1.drewN q) fun e w' => e = .returned (.bool false) ∧ Below base w w') := Lib.hid fun q => (HRM.out q).mono fun e w' ⟨h1, h2⟩ => by
                rcases h1 with ⟨y1, h1, -⟩ | ⟨-, h1⟩
                · cases h1
                · exact ⟨h1, (HKD.out q).2.trans h2⟩
              clear k1 k2 hstep HSC hsc hst hbx hrm hR hrL j1 j2 j3 j4 hcm hfull hrn hrl2 x3 HRM hgood hpot hroom
              go_wp2_with fail
              go_quiet (fail)
              go_wp2_with (go_at_call 204; (with_reducible refine (HRM'.out _).mono ?_); rintro E w2 ⟨rfl, hb2⟩
                           have HB2 := Lib.hid hb2
                           clear hb2)
              go_ret
              exact ⟨.inr ⟨HE.out, (by first | rfl | trivial)⟩, HB2.out⟩
            | some y1 =>
              rw [hroom] at HRM hstep
              have HE : Hid (Ct.fillL m lim rels y1 ws = F) := Lib.hid hstep.symm
              have HRM' : Hid (∀ q, Calls Try.prog 204 #[.pointer (some ⟨bx, 0, none⟩)] (w1.drewN q) fun e w' => e = .returned (.bool true) ∧ LkR vr g base b bx lim w' y1 ∧ Below base w w') := Lib.hid fun q => (HRM.out q).mono fun e w' ⟨h1, h2⟩ => by
                rcases h1 with ⟨y2, h1, h3, h4⟩ | ⟨h1, -⟩
                · cases h1
                  exact ⟨h3, h4, (HKD.out q).2.trans h2⟩
                · cases h1
              have HN : Hid (LGood g lim y1 ∧ LLive y1 ∧ lpot lim y1 < lpot lim y) := Lib.hid ⟨(hgood y1 hroom).1, (hgood y1 hroom).2.1, hpot y1 hroom⟩
              clear k1 k2 hstep HSC hsc hst hbx hrm hR hrL j1 j2 j3 j4 hcm hfull hrn hrl2 x3 HRM hgood hpot hroom
              go_wp2_with fail
              go_quiet (fail)
              go_wp2_with (go_at_call 204; (with_reducible refine (HRM'.out _).mono ?_); rintro E w2 ⟨rfl, hs2, hb2⟩
                           have HS2 := Lib.hid hs2
                           have HB2 := Lib.hid hb2
                           clear hs2 hb2)
              go_roundw
              case rel => exact ⟨y1, Lib.hid ⟨HS2.out, HN.out.1, HN.out.2.1⟩, HE, HB2⟩
              case measure =>
                rw [HPOT.out, HS2.out.pot]
                exact HN.out.2.2
end Go.Proofs
namespace Go.Proofs
open Go.RowKit Go.Shelf Go.Proofs.Ct Go.Maps
set_option maxRecDepth 100000 in
set_option maxHeartbeats 4000000 in
theorem columns159_any (vr : Value) (g m base b bx lim : Nat) (hm : m = 2 * g) (hg1 : 1 ≤ g) (hg16 : g ≤ 16) (w : World) (x : LS) (rels : List W) (hS : LkR vr g base b bx lim w x) (hG : LGood g lim x) (hLL : LLive x) (hbw : base ≤ w.heap.size) (hlim : lim ≤ 1000) (hrl : rels.length ≤ 100000)
    (hv : Words base w vr rels) (hr : ∀ j, LOk g (rels.getD j [])) :
    Calls Try.prog 159 #[.pointer (some ⟨bx, 0, none⟩)] w fun e w' => ((∃ y, colL m lim rels x 0 = some y ∧ e = .returned (.bool true) ∧ LkR vr g base b bx lim w' y) ∨ (colL m lim rels x 0 = none ∧ e = .returned (.bool false))) ∧ Below base w w' := by
  have HREL : Hid (LkR vr g base b bx lim w x ∧ LGood g lim x ∧ LLive x) := Lib.hid ⟨hS, hG, hLL⟩
  generalize hfe : colL m lim rels x 0 = F at *
  have HBW := Lib.hid hbw
  have HVV := Lib.hid hv
  have HRR := Lib.hid hr
  have HM := Lib.hid hm
  have HRLL := Lib.hid hrl
  have hgI : (g : Int) ≤ 16 := by omega
  have hgI1 : (1 : Int) ≤ (g : Int) := by omega
  clear hG hS hLL hbw hv hr hrl hm
  have HFE := Lib.hid hfe
  clear hfe
  go_enter Try.func159, Try.ntmps159
  go_wp2_with fail
  go_loopw [3] (fun i wr => ∃ (c : Nat) (y : LS), i = .int .i64 (c : Int) ∧ c ≤ m ∧ Hid (LkR vr g base b bx lim wr y ∧ LGood g lim y ∧ LLive y) ∧ Hid (colL m lim rels y c = F) ∧ Hid (Below base w wr)) (fun i wr => lpotR lim b bx wr * (m + 2) + (m - (intOf i).toNat))
  case atStart => exact ⟨0, x, rfl, Nat.zero_le _, HREL, HFE, Lib.hid (Below.refl _ _)⟩
  case round =>
    obtain ⟨c, y, rfl, hcm0, HI, HF1, HB⟩ := hrel
    clear HREL HFE
    have hc0 : (0 : Int) ≤ (c : Int) := Int.natCast_nonneg _
    have hstep := colL_step (rels := rels) (c := c) (fun j _ => HRR.out j) HI.out.2.1 HI.out.2.2
    rw [← HM.out, HF1.out] at hstep
    have HPOT : Hid (lpotR lim b bx wr = lpot lim y) := Lib.hid HI.out.1.pot
    have HKD : Hid (∀ q, LkR vr g base b bx lim (wr.drewN q) y ∧ Below base w (wr.drewN q)) := Lib.hid fun q => ⟨HI.out.1.below (below_drewN (Below.refl _ _) q), below_drewN HB.out q⟩
    obtain ⟨hst, hbb, hbx, hrm, hn1⟩ := HI.out.1
    obtain ⟨x0, x1, -, x3, -, -, -⟩ := hbx.cells
    cases hlo : y.lost with
    | true =>
      have hrL : rL y = -1 - (y.r : Int) := if_pos hlo
      rw [hrL] at x3
      have hneg : ¬ (0 : Int) ≤ -1 - (y.r : Int) := by omega
      have HE : Hid (F = some y) := Lib.hid (by rw [hstep, if_pos (.inl hlo)])
      clear hstep hst hbx hrm hrL
      generalize -1 - (y.r : Int) = z at *
      go_wp2_with fail
      go_ret
      exact ⟨.inl ⟨y, HE.out, (by first | rfl | trivial), HI.out.1⟩, HB.out⟩
    | false =>
      have hrL : rL y = (y.r : Int) := if_neg (by rw [hlo]; simp)
      rw [hrL] at x3
      have hr0 : (0 : Int) ≤ (y.r : Int) := Int.natCast_nonneg _
      have hm2 : (m : Int) = 2 * (g : Int) := by have := HM.out; omega
      by_cases hcm : c < m
      · have hcI : (c : Int) < 2 * (g : Int) := by omega
        rw [if_neg (by rw [hlo]; simp; omega)] at hstep
        clear hm2
        obtain ⟨hrn, hrl2⟩ := HI.out.2.2 hlo
        have hR := HI.out.2.1.good.rest
        obtain ⟨gr, cr, br, kk, a1, a2, a3⟩ := hst.at_ hR.inv hrn (c := c) (by rw [← HM.out]; exact hcm)
        obtain ⟨⟨A, cA, d0⟩, d3, -⟩ := hst.top
        rw [a1] at d0
        cases d0
        obtain ⟨hb1, hb2⟩ := hR.inv.bd _ hrn c (by rw [← HM.out]; exact hcm)
        have hb3 : y.s.t.at y.r c ≤ 1000 := by omega
        have hrI : (y.r : Int) < (y.s.t.length : Int) := by omega
        have hnI : (y.s.t.length : Int) ≤ 1000 := by omega
        have hlmI : (lim : Int) ≤ 1000 := by omega
        have hcI2 : (c : Int) < ((2 * g : Nat) : Int) := by omega
        clear hb2
        by_cases h0 : 0 ≤ y.s.t.at y.r c
        · rw [if_pos h0] at hstep
          have HE : Hid (colL m lim rels y (c + 1) = F) := Lib.hid hstep.symm
          clear hstep hst hbx hrm hR
          generalize y.s.t.at y.r c = z at *
          go_wp2_with fail
          go_quiet (fail)
          go_wp2_with fail
          go_roundw
          case rel => exact ⟨c + 1, y, by go_num, by omega, Lib.hid ⟨(HKD.out _).1, HI.out.2⟩, HE, Lib.hid (HKD.out _).2⟩
          case measure =>
            rw [HPOT.out, (HKD.out _).1.pot]
            simp [intOf]; omega
        · rw [if_neg h0] at hstep
          have h0' : y.s.t.at y.r c < 0 := by omega
          by_cases hfull : y.s.t.length < lim
          · have hfI : ¬ (lim : Int) ≤ (y.s.t.length : Int) := by omega
            rw [if_pos hfull] at hstep
            have hc2 : c < 2 * g := by rw [← HM.out]; exact hcm
            obtain ⟨d1, d2, d3'⟩ := HI.out.2.1.defn hrn hc2 hrl2 h0' hfull
            rw [← HM.out] at d1 d2 d3'
            have HE : Hid (colL m lim rels { y with s := defS m y.s y.r c } (c + 1) = F) := Lib.hid hstep.symm
            have HD : Hid (∀ W, Below wr.heap.size wr W → Calls Try.prog 178 #[.pointer (some ⟨b, 0, none⟩), .int .i64 (y.r : Int), .int .i64 (c : Int)] W fun e w' => e = .returned (.bool true) ∧ LkR vr g base b bx lim w' { y with s := defS m y.s y.r c } ∧ Below base w w') := Lib.hid fun W hb => by
              have hbB : Below base w W := HB.out.trans (hb.mono (Nat.le_trans HBW.out HB.out.size))
              exact (define132_any g m base b lim y.r c HM.out hg16 hg1 W y.s hR (hst.below hb) (Nat.le_trans HBW.out hbB.size) (by omega) hrn hcm hfull).mono fun e w' ⟨h1, h2, h3⟩ => ⟨h1, ⟨h2, hbb, by
                have h : rL { y with s := defS m y.s y.r c } = rL y := rfl
                rw [h]
                exact (hbx.below hb).kf h3, hrm, by show (defS m y.s y.r c).t.length ≤ 1000; rw [length_def]; omega⟩, hbB.trans h3.1⟩
            have HN : Hid (LGood g lim { y with s := defS m y.s y.r c } ∧ LLive { y with s := defS m y.s y.r c } ∧ lpot lim { y with s := defS m y.s y.r c } < lpot lim y) := Lib.hid ⟨d1, d2 HI.out.2.2, d3'⟩
            clear hstep hst hbx hrm hR hrL d1 d2 d3' hfull hc2 hrn hrl2
            generalize hy2 : ({ y with s := defS m y.s y.r c } : LS) = y2 at *
            clear hy2
            generalize y.s.t.at y.r c = z at *
            go_wp2_with fail
            go_quiet (fail)
            have hq1 : Below wr.heap.size wr (wr.drewN nq) := below_drewN (Below.refl _ _) _
            have y0 : (wr.drewN nq).cell? ⟨bx, 0, none⟩ = some (.pointer (some ⟨b, 0, none⟩)) := x0
            have y3 : (wr.drewN nq).cell? ⟨bx, 3, none⟩ = some (.int .i64 (y.r : Int)) := x3
            have y1 : (wr.drewN nq).cell? ⟨b, 0, none⟩ = some (.slice (some ⟨gr, 0, none⟩) y.s.t.length cr) := a1
            have y2' : (wr.drewN nq).cell? ⟨b, 3, none⟩ = some (.int .i64 (lim : Int)) := d3
            clear x0 x1 x3 a1 a2 a3 d3
            generalize wr.drewN nq = wq at *
            go_wp2_with fail
            go_quiet (fail)
            have hq2 : Below wr.heap.size wr (wq.drewN nq) := below_drewN hq1 _
            have z0 : (wq.drewN nq).cell? ⟨bx, 0, none⟩ = some (.pointer (some ⟨b, 0, none⟩)) := y0
            have z3 : (wq.drewN nq).cell? ⟨bx, 3, none⟩ = some (.int .i64 (y.r : Int)) := y3
            clear y0 y3 y1 y2'
            generalize wq.drewN nq = wq2 at *
            have HQ2 := Lib.hid hq2
            clear hq1 hq2
            go_wp2_with fail
            go_still_tail 9, (by kernel_rfl)
            go_wp2_with (go_at_call 178; (with_reducible refine (HD.out _ HQ2.out.drew).mono ?_); rintro E w3 ⟨rfl, hs3, hb3⟩
                         have HS3 := Lib.hid hs3
                         have HB3 := Lib.hid hb3
                         clear hs3 hb3)
            go_roundw
            case rel => exact ⟨c + 1, y2, by go_num, by omega, Lib.hid ⟨HS3.out, HN.out.1, HN.out.2.1⟩, HE, HB3⟩
            case measure =>
              rw [HPOT.out, HS3.out.pot]
              have h := HN.out.2.2
              have h2 : (lpot lim y2 + 1) * (m + 2) ≤ lpot lim y * (m + 2) := Nat.mul_le_mul_right _ h
              rw [Nat.add_mul] at h2
              simp [intOf]; omega
          · have hfI : (lim : Int) ≤ (y.s.t.length : Int) := by omega
            rw [if_neg hfull] at hstep
            have HRM := Lib.hid (fun q => room204_any vr g m base b bx lim HM.out hg1 hg16 (wr.drewN q) y rels (HKD.out q).1 HI.out.2.1 (Nat.le_trans HBW.out (HKD.out q).2.size) hrn hlo (by omega) HRLL.out (HVV.out.later (HKD.out q).2) HRR.out)
            have hgood := fun y1 h => room_good (rels := rels) (fun j _ => HRR.out j) HI.out.2.1 hrn (y := y1) h
            have hpot := fun y1 h => room_pot (rels := rels) (fun j _ => HRR.out j) HI.out.2.1 hrn (y := y1) h
            rw [← HM.out] at hgood hpot
            cases hroom : roomL m rels y with
            | none =>
              rw [hroom] at HRM hstep
              have HE : Hid (F = none) := Lib.hid hstep
              have HRM' : Hid (∀ q, Calls Try.prog 204 #[.pointer (some ⟨bx, 0, none⟩)] (wr.drewN q) fun e w' => e = .returned (.bool false) ∧ Below base w w') := Lib.hid fun q => (HRM.out q).mono fun e w' ⟨h1, h2⟩ => by
                rcases h1 with ⟨y1, h1, -⟩ | ⟨-, h1⟩
                · cases h1
                · exact ⟨h1, (HKD.out q).2.trans h2⟩
              clear hstep hst hbx hrm hR hrL hfull hrn hrl2 HRM hgood hpot hroom
              generalize y.s.t.at y.r c = z at *
              go_wp2_with fail
              go_quiet (fail)
              go_wp2_with fail
              go_quiet (fail)
              go_wp2_with (go_at_call 204; (with_reducible refine (HRM'.out _).mono ?_); rintro E w2 ⟨rfl, hb2⟩
                           have HB2 := Lib.hid hb2
                           clear hb2)
              go_ret
              exact ⟨.inr ⟨HE.out, (by first | rfl | trivial)⟩, HB2.out⟩
            | some y1 =>
              rw [hroom] at HRM hstep
              have HE : Hid (colL m lim rels y1 0 = F) := Lib.hid hstep.symm
              have HRM' : Hid (∀ q, Calls Try.prog 204 #[.pointer (some ⟨bx, 0, none⟩)] (wr.drewN q) fun e w' => e = .returned (.bool true) ∧ LkR vr g base b bx lim w' y1 ∧ Below base w w') := Lib.hid fun q => (HRM.out q).mono fun e w' ⟨h1, h2⟩ => by
                rcases h1 with ⟨y2, h1, h3, h4⟩ | ⟨h1, -⟩
                · cases h1
                  exact ⟨h3, h4, (HKD.out q).2.trans h2⟩
                · cases h1
              have HN : Hid (LGood g lim y1 ∧ LLive y1 ∧ lpot lim y1 < lpot lim y) := Lib.hid ⟨(hgood y1 hroom).1, (hgood y1 hroom).2.1, hpot y1 hroom⟩
              clear hstep hst hbx hrm hR hrL hfull hrn hrl2 HRM hgood hpot hroom
              generalize y.s.t.at y.r c = z at *
              go_wp2_with fail
              go_quiet (fail)
              go_wp2_with fail
              go_quiet (fail)
              go_wp2_with (go_at_call 204; (with_reducible refine (HRM'.out _).mono ?_); rintro E w2 ⟨rfl, hs2, hb2⟩
                           have HS2 := Lib.hid hs2
                           have HB2 := Lib.hid hb2
                           clear hs2 hb2)
              go_roundw
              case rel => exact ⟨0, y1, rfl, Nat.zero_le _, Lib.hid ⟨HS2.out, HN.out.1, HN.out.2.1⟩, HE, HB2⟩
              case measure =>
                rw [HPOT.out, HS2.out.pot]
                have h := HN.out.2.2
                have h2 : (lpot lim y1 + 1) * (m + 2) ≤ lpot lim y * (m + 2) := Nat.mul_le_mul_right _ h
                rw [Nat.add_mul] at h2
                simp [intOf]; omega
      · have hcI : ¬ (c : Int) < 2 * (g : Int) := by omega
        have HE : Hid (F = some y) := Lib.hid (by rw [hstep, if_pos (.inr (by omega))])
        clear hstep hst hbx hrm hrL
        go_wp2_with fail
        go_ret
        exact ⟨.inl ⟨y, HE.out, (by first | rfl | trivial), HI.out.1⟩, HB.out⟩
end Go.Proofs
