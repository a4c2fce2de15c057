/- (*looker).fill; (*looker).columns; Lookahead, plainly: what filling and columns keep; Lookahead, plainly: steps and the run; it ends with the coset table. -/
import Derived.Test.YtmpnengjboabcaaFtCS22
import Derived.Test.YtmpnengjboabcaaFtCS16
import Derived.Test.YtmpnengjboabcaaFtCS21
namespace Go.Proofs
open Go.RowKit Go.Shelf Go.Proofs.Ct Go.Maps
def looksIn (b : Nat) (w : World) : Nat := match w.cell? ⟨b, 12, none⟩ with
  | some (.int _ z) => z.toNat
  | _ => 0
def lpotIn (lim b : Nat) (w : World) : Nat := (50 - looksIn b w) * (lim + 2) + (lim - rowsIn b w) + 1
theorem LkF.pot {K : Nat → Prop} {vr : Value} {g base b m lim : Nat} {w : World} {x : LS} (h : LkF K vr g base b m lim w x) : lpotIn lim b w = lpot lim x := by
  obtain ⟨k, hst, -⟩ := h
  have h1 := hst.look.2.2.2.2.2.2.2.2.1
  have h2 := hst.rowsIn
  unfold lpotIn lpot looksIn
  rw [h1, h2]
  simp
theorem LkF.below {K : Nat → Prop} {vr : Value} {g base b m lim : Nat} {w w' : World} {x : LS} (h : LkF K vr g base b m lim w x) (hb : Below w.heap.size w w') : LkF K vr g base b m lim w' x := by
  obtain ⟨k, hst, h1⟩ := h
  exact ⟨k, hst.below hb, h1⟩
theorem room201_any (K : Nat → Prop) (vr : Value) (g m base b lim : Nat) (hm : m = 2 * g) (w : World) (x : LS) (rels : List W) (hS : LkF K vr g base b m lim w x) (hG : LGood g lim x) (hbw : base ≤ w.heap.size) (hx : x.r < x.s.t.length) (hl : lim ≤ x.s.t.length)
    (hv : ∀ W, Keeps base K w W → Tab W vr rels) (hr : ∀ j, LOk g (rels.getD j [])) (hwl : ∀ j, (rels.getD j []).length ≤ 1000000) :
    Calls Try.prog 201 #[.pointer (some ⟨b, 0, none⟩)] w fun e w' => ((∃ y, roomL m rels x = some y ∧ e = .returned (.bool true) ∧ LkF K vr g base b m lim w' y) ∨ (roomL m rels x = none ∧ e = .panicked fullF)) ∧ Keeps base K w w' := by
  by_cases h50 : x.looks = 50
  · exact (room201_last K vr g m base b lim w x hS hl h50).mono fun e w' ⟨h1, h2⟩ => ⟨.inr ⟨by unfold roomL; rw [if_pos h50], h1⟩, h2⟩
  · exact room201_full K vr g m base b lim hm w x rels hS hG hbw hx hl (by have := hG.lk; omega) hv hr hwl
theorem call196 (args : Array Value) (w : World) : (callFunc 196 args).run Try.prog w = .ok (.enter 196 args) w := enters_of Try.func196 (by kernel_rfl) rfl args w
theorem openV_three (o : Option (Nat × Nat)) : ∃ (va vc : Int) (vd : Bool), openV o = .tuple #[.int .i64 va, .int .i64 vc, .bool vd] ∧ ((o = none ∧ va = 0 ∧ vc = 0 ∧ vd = false) ∨ ∃ z c : Nat, o = some (z, c) ∧ va = z ∧ vc = c ∧ vd = true) := by
  cases o with
  | none => exact ⟨0, 0, false, rfl, .inl ⟨rfl, rfl, rfl, rfl⟩⟩
  | some p =>
    obtain ⟨z, c⟩ := p
    exact ⟨z, c, true, rfl, .inr ⟨z, c, rfl, rfl, rfl, rfl⟩⟩
set_option maxRecDepth 100000 in
set_option maxHeartbeats 4000000 in
theorem fill156_any (K : Nat → Prop) (vr : Value) (g m base b lim : Nat) (hm : m = 2 * g) (w : World) (x : LS) (rels : List W) (u : Value) (ws : W) (hS : LkF K vr g base b m lim w x) (hG : LGood g lim x) (hLL : LLive x) (hbw : base ≤ w.heap.size) (hlim : lim ≤ 1000)
    (hv : ∀ W, Keeps base K w W → Tab W vr rels) (hr : ∀ j, LOk g (rels.getD j [])) (hwr : ∀ j, (rels.getD j []).length ≤ 1000000)
    (hu : ∀ W, Keeps base K w W → IntsAt W u ws) (hl : LOk g ws) (hwl : ws.length ≤ 1000000) :
    Calls Try.prog 156 #[.pointer (some ⟨b, 0, none⟩), u] w fun e w' => ((∃ y, Ct.fillL m lim rels x ws = some y ∧ e = .returned (.tuple #[]) ∧ LkF K vr g base b m lim w' y) ∨ (Ct.fillL m lim rels x ws = none ∧ e = .panicked fullF)) ∧ Keeps base K w w' := by
  have HREL : Hid (LkF K vr g base b m lim w x ∧ LGood g lim x ∧ LLive x) := Lib.hid ⟨hS, hG, hLL⟩
  generalize hfe : Ct.fillL m lim rels x ws = F at *
  have HBW := Lib.hid hbw
  have HVV := Lib.hid hv
  have HRR := Lib.hid hr
  have HWR := Lib.hid hwr
  have HUU := Lib.hid hu
  have HL := Lib.hid hl
  have HM := Lib.hid hm
  have HT : Hid (TyF 176) := Lib.hid ⟨by decide, by decide, by decide⟩
  clear hG hS hLL hu hl hbw hv hr hwr
  have HFE := Lib.hid hfe
  clear hfe
  go_enter Try.func156, Try.ntmps156
  go_wp2_with fail
  go_loopw [4] (fun _ wr => ∃ y : LS, Hid (LkF K vr g base b m lim wr y ∧ LGood g lim y ∧ LLive y) ∧ Hid (Ct.fillL m lim rels y ws = F) ∧ Hid (Keeps base K w wr)) (fun _ wr => lpotIn lim b wr)
  case atStart => exact ⟨x, HREL, HFE, Lib.hid (Keeps.refl _ _ _)⟩
  case round =>
    obtain ⟨y, HI, HF1, HB⟩ := hrel
    clear HREL HFE
    have hstep := fillL_step (rels := rels) (w := ws) (fun j _ => HRR.out j) HL.out HI.out.2.1 HI.out.2.2
    rw [← HM.out, HF1.out] at hstep
    have hlk := HI.out.1
    obtain ⟨k, hst, hfi, hrem⟩ := hlk
    obtain ⟨c0, c1, ⟨A2, cr2, c2⟩, -, -, c9, c10, -, -, hfr⟩ := hst.look
    have HPOT : Hid (lpotIn lim b wr = lpot lim y) := Lib.hid HI.out.1.pot
    clear c0 c1 c2 hfr
    cases hlo : y.lost with
    | true =>
      rw [hlo] at c10
      have HE : Hid (F = some y) := Lib.hid (by rw [hstep, if_pos hlo])
      clear hstep hst hfi hrem
      go_wp2_with fail
      go_end0
      exact ⟨.inl ⟨y, HE.out, (by first | rfl | trivial), HI.out.1⟩, HB.out⟩
    | false =>
      rw [hlo] at c10
      rw [if_neg (by rw [hlo]; simp)] at hstep
      obtain ⟨hrn, hrl⟩ := HI.out.2.2 hlo
      obtain ⟨bl, cs, h1⟩ := hst
      have hkk := hfi.k
      rw [← HM.out] at hkk
      have hFG : FRest g ⟨y.s, k⟩ := hfi.rest
      obtain ⟨k1, k2⟩ := scan_F hFG hrn hrl HL.out
      rw [← HM.out] at k1 k2
      have hn1 := hfi.n
      have hsc0 := fun W (hW : Below wr.heap.size wr W) (hk : Keeps base K w W) => scan196_any K 176 _ bl cs g m base b lim y.r HM.out hfi.g1 hfi.g16 W ⟨y.s, k⟩ u ws HT.out hfi.rest.rest (h1.below hW) (Nat.le_trans HBW.out hk.size) (by omega) (HUU.out W hk) HL.out hwl hrn hkk
      have hs2 : scanS m y.s y.r ws = ((scanF m ⟨y.s, k⟩ y.r ws).1.s, (scanF m ⟨y.s, k⟩ y.r ws).2) := scanF_s m ⟨y.s, k⟩ y.r ws
      have hr0 : (0 : Int) ≤ (y.r : Int) := Int.natCast_nonneg _
      have HKW : Hid (Keeps base K w wr.drew) := Lib.hid HB.out.drew
      have HC9 : Hid (wr.drew.cell? ⟨b, 9, none⟩ = some (.int .i64 (y.r : Int))) := Lib.hid c9
      have hsc1 := hsc0 wr.drew (Below.refl _ _).drew HKW.out
      cases hsc : scanF m ⟨y.s, k⟩ y.r ws with
      | mk f2 o =>
        rw [hsc] at hsc1 hs2 k1 k2
        rw [hs2] at hstep
        obtain ⟨va, vc, vd, hov, hoc⟩ := openV_three o
        have hsc2 : Calls Try.prog 196 #[.pointer (some ⟨b, 0, none⟩), .int .i64 (y.r : Int), u] wr.drew fun e w' => e = .returned (.tuple #[.int .i64 va, .int .i64 vc, .bool vd]) ∧ StFB K 176 (exL vr y.r y.lost y.removed y.looks) bl cs base b m lim w' f2 ∧ Keeps base K wr.drew w' := by rw [← hov]; exact hsc1
        have HSC := Lib.hid hsc2
        clear hsc0 hsc1 hsc2 hov
        go_wp2_with fail
        obtain ⟨w0, hw0⟩ : ∃ w0, w0 = wr.drew := ⟨_, rfl⟩
        rw [← hw0] at HSC HC9 HKW
        refine (wpIn_wide (n := 3)).1 ?_
        refine wpIn_region_all (by kernel_rfl) 16 rfl (fun i => ([some 13, some 14, some 15, some 16, some 17, some 18, some 19, some 20, some 21, some 12, some 22, some 23, some 24, some 4, some 5, some 6] : List (Option Nat)).getD i none) (lex_of (by kernel_rfl)) (fun ls W => (ls 8 = false → W = w0) ∧ (ls 8 = true → StFB K 176 (exL vr y.r y.lost y.removed y.looks) bl cs base b m lim W f2 ∧ Keeps base K w0 W)) (fun i v _ => v = ([.pointer (some ⟨b, 0, none⟩), .pointer (some ⟨b, 0, none⟩), .pointer (some ⟨b, 0, none⟩), .pointer (some ⟨b, 0, none⟩), .pointer (some ⟨b, 0, none⟩), .pointer (some ⟨b, 9, none⟩), .int .i64 (y.r : Int), u, .tuple #[.int .i64 va, .int .i64 vc, .bool vd], .tuple #[.int .i64 va, .int .i64 vc, .bool vd], .int .i64 va, .int .i64 vc, .bool vd, .int .i64 va, .int .i64 vc, .bool vd] : List Value).getD i undef) (fun _ _ _ => True) (dm_inj (by kernel_rfl)) (fun _ _ _ _ _ _ _ _ _ h => h) (dm_lt (n := 36) (by kernel_rfl)) ⟨fun _ => hw0.symm, (fun h => by cases h)⟩ ?_ ?_
        · intro ls q o a w2 hq ho hS2 hls hcl hP hpre
          have hcases : q = 0 ∨ q = 1 ∨ q = 2 ∨ q = 3 ∨ q = 4 ∨ q = 5 ∨ q = 6 ∨ q = 7 ∨ q = 8 ∨ q = 9 ∨ q = 10 ∨ q = 11 ∨ q = 12 ∨ q = 13 ∨ q = 14 ∨ q = 15 := by
            have : q < 16 := hq
            omega
          rcases hcases with rfl | rfl | rfl | rfl | rfl | rfl | rfl | rfl | rfl | rfl | rfl | rfl | rfl | rfl | rfl | rfl
          · obtain rfl := Option.some.inj ho
            exact wpOpIn_of rfl rfl (wpW_val (r_move (.tmp 0) rfl (hP.out 0 (dm_out (by kernel_rfl)))) ⟨_, rfl, hS2, trivial, (fun h => by simp at h), rfl⟩)
          · obtain rfl := Option.some.inj ho
            exact wpOpIn_of rfl rfl (wpW_val (r_nil (.tmp 13) _ rfl (hpre ⟨0, .data⟩ (by simp) rfl).2) ⟨_, rfl, hS2, trivial, (fun h => by simp at h), rfl⟩)
          · obtain rfl := Option.some.inj ho
            exact wpOpIn_of rfl rfl (wpW_val (r_fld (.tmp 14) _ rfl (hpre ⟨1, .data⟩ (by simp) rfl).2 (fld176_0 b _)) ⟨_, rfl, hS2, trivial, (fun h => by simp at h), rfl⟩)
          · obtain rfl := Option.some.inj ho
            exact wpOpIn_of rfl rfl (wpW_val (r_move (.tmp 0) rfl (hP.out 0 (dm_out (by kernel_rfl)))) ⟨_, rfl, hS2, trivial, (fun h => by simp at h), rfl⟩)
          · obtain rfl := Option.some.inj ho
            exact wpOpIn_of rfl rfl (wpW_val (r_nil (.tmp 16) _ rfl (hpre ⟨3, .data⟩ (by simp) rfl).2) ⟨_, rfl, hS2, trivial, (fun h => by simp at h), rfl⟩)
          · obtain rfl := Option.some.inj ho
            exact wpOpIn_of rfl rfl (wpW_val (r_fld (.tmp 17) _ rfl (hpre ⟨4, .data⟩ (by simp) rfl).2 (fld176_2 b _)) ⟨_, rfl, hS2, trivial, (fun h => by simp at h), rfl⟩)
          · obtain rfl := Option.some.inj ho
            have h8 := not_yet hcl 8 rfl ⟨6, .data⟩ (by simp) rfl hls
            obtain rfl := hS2.1 h8
            exact wpOpIn_of rfl rfl (wpW_val (r_load1 3 agg3 (.tmp 18) ⟨b, 9, none⟩ rfl (hpre ⟨5, .data⟩ (by simp) rfl).2 HC9.out) ⟨_, rfl, hS2, trivial, (fun h => by simp at h), rfl⟩)
          · obtain rfl := Option.some.inj ho
            exact wpOpIn_of rfl rfl (wpW_val (r_move (.tmp 1) rfl (hP.out 1 (dm_out (by kernel_rfl)))) ⟨_, rfl, hS2, trivial, (fun h => by simp at h), rfl⟩)
          · obtain rfl := Option.some.inj ho
            obtain rfl := hS2.1 hls
            exact wpOpIn_of rfl rfl (wpW_call (R := fun v w' => v = .tuple #[.int .i64 va, .int .i64 vc, .bool vd] ∧ StFB K 176 (exL vr y.r y.lost y.removed y.looks) bl cs base b m lim w' f2 ∧ Keeps base K w2 w') (r_call3 (.tmp 15) (.tmp 19) (.tmp 20) _ _ _ _ rfl (hpre ⟨2, .data⟩ (by simp) rfl).2 (hpre ⟨6, .data⟩ (by simp) rfl).2 (hpre ⟨7, .data⟩ (by simp) rfl).2 call196) (HSC.out.mono fun e w' ⟨he, hb⟩ => ⟨_, he, rfl, hb⟩) (fun v w'' ⟨hv, hw⟩ => ⟨v, rfl, ⟨fun h => by simp at h, fun _ => hw⟩, trivial, (fun h => by simp at h), hv⟩))
          · obtain rfl := Option.some.inj ho
            exact wpOpIn_of rfl rfl (wpW_val (r_move (.tmp 21) rfl (hpre ⟨8, .data⟩ (by simp) rfl).2) ⟨_, rfl, hS2, trivial, (fun h => by simp at h), rfl⟩)
          · obtain rfl := Option.some.inj ho
            exact wpOpIn_of rfl rfl (wpW_val (r_extract 0 (.tmp 12) _ rfl (hpre ⟨9, .data⟩ (by simp) rfl).2 rfl) ⟨_, rfl, hS2, trivial, (fun h => by simp at h), rfl⟩)
          · obtain rfl := Option.some.inj ho
            exact wpOpIn_of rfl rfl (wpW_val (r_extract 1 (.tmp 12) _ rfl (hpre ⟨9, .data⟩ (by simp) rfl).2 rfl) ⟨_, rfl, hS2, trivial, (fun h => by simp at h), rfl⟩)
          · obtain rfl := Option.some.inj ho
            exact wpOpIn_of rfl rfl (wpW_val (r_extract 2 (.tmp 12) _ rfl (hpre ⟨9, .data⟩ (by simp) rfl).2 rfl) ⟨_, rfl, hS2, trivial, (fun h => by simp at h), rfl⟩)
          · obtain rfl := Option.some.inj ho
            exact wpOpIn_of rfl rfl (wpW_val (r_assign (.tmp 22) rfl (hpre ⟨10, .data⟩ (by simp) rfl).2) ⟨_, rfl, hS2, trivial, (fun h => by simp at h), rfl⟩)
          · obtain rfl := Option.some.inj ho
            exact wpOpIn_of rfl rfl (wpW_val (r_assign (.tmp 23) rfl (hpre ⟨11, .data⟩ (by simp) rfl).2) ⟨_, rfl, hS2, trivial, (fun h => by simp at h), rfl⟩)
          · obtain rfl := Option.some.inj ho
            exact wpOpIn_of rfl rfl (wpW_val (r_assign (.tmp 24) rfl (hpre ⟨12, .data⟩ (by simp) rfl).2) ⟨_, rfl, hS2, trivial, (fun h => by simp at h), rfl⟩)
        intro ls a w1 hall hS2 hP hsl
        obtain ⟨hs1, hb1⟩ := hS2.2 (hall 8 (by decide))
        obtain ⟨vs, hvs, hfr⟩ := hP.frame 36 rfl
        have hv4 : vs 4 = .int .i64 va := (hvs 4).trans (hsl 13 (by decide))
        have hv5 : vs 5 = .int .i64 vc := (hvs 5).trans (hsl 14 (by decide))
        have hv6 : vs 6 = .bool vd := (hvs 6).trans (hsl 15 (by decide))
        have HS1 := Lib.hid hs1
        have HB1 := Lib.hid (HKW.out.trans hb1)
        clear hsl hP hall hS2 hvs hs1 hb1
        subst hfr
        dsimp only
        simp only [List.range, List.range.loop, List.map_cons, List.map_nil, List.any_cons, List.any_nil, Nat.reduceBEq, Option.some_beq_some, Bool.or_false, Bool.false_or, Bool.false_eq_true, if_true, if_false, List.getD_cons_zero, List.getD_cons_succ, hv4, hv5, hv6]
        clear hv4 hv5 hv6
        rcases hoc with ⟨rfl, rfl, rfl, rfl⟩ | ⟨z, c, rfl, rfl, rfl, rfl⟩
        · skip
          have HE : Hid (F = some { y with s := f2.s }) := Lib.hid hstep
          have HFN : Hid (Fine g f2) := Lib.hid (hfi.ext ⟨k1.1, k1.2.1, k1.2.2.1, k1.2.2.2.1, k1.2.2.2.2⟩)
          have HREM := Lib.hid hrem
          clear k1 k2 hstep HSC h1 hsc hkk hs2 hfi hrn hrl hrem hFG
          go_wp2_with fail
          try simp only [Exit.inBlock, Exit.then]
          refine bodyPost_ret (results_none rfl _ _ _) rfl ?_
          exact ⟨.inl ⟨_, HE.out, rfl, f2.k, ⟨bl, cs, HS1.out⟩, HFN.out, HREM.out⟩, HB1.out⟩
        · skip
          obtain ⟨e1, j1, j2, j3, j4⟩ := k2 _ _ rfl
          have e1 : f2 = ⟨y.s, k⟩ := e1
          subst e1
          have hcm : c < m := j2
          have j2 : c < 2 * g := by rw [← HM.out]; exact hcm
          have hk1 : k.length ≤ 1000000000000 := by have h : k.length + _ ≤ _ := hfi.k; omega
          have HLK : Hid (∀ W, StFB K 176 (exL vr y.r y.lost y.removed y.looks) bl cs base b m lim W ⟨y.s, k⟩ → LkF K vr g base b m lim W y) := Lib.hid fun W h => ⟨k, ⟨bl, cs, h⟩, hfi, hrem⟩
          by_cases hfull : y.s.t.length < lim
          · have HE : Hid (Ct.fillL m lim rels { y with s := defS m y.s z c } ws = F) := Lib.hid (by rw [hstep]; exact (if_pos hfull).symm)
            obtain ⟨d1, d2, d3⟩ := HI.out.2.1.defn j1 j2 j3 j4 hfull
            rw [← HM.out] at d1 d2 d3
            have HD : Hid (∀ W, StFB K 176 (exL vr y.r y.lost y.removed y.looks) bl cs base b m lim W ⟨y.s, k⟩ → base ≤ W.heap.size → Calls Try.prog 197 #[.pointer (some ⟨b, 0, none⟩), .int .i64 (z : Int), .int .i64 (c : Int)] W fun e w' => e = .returned (.tuple #[]) ∧ LkF K vr g base b m lim w' { y with s := defS m y.s z c } ∧ Keeps base K W w') := Lib.hid fun W h hw =>
              (define197_any K 176 _ bl cs g m base b lim z c HM.out hfi.g16 W ⟨y.s, k⟩ HT.out hfi.rest.rest h hw (by show y.s.t.length + 1 ≤ _; omega) j1 hcm (by omega) hfull hk1).mono fun e w' ⟨h1, h2, h3⟩ => ⟨h1, ⟨_, h2, by
                have hfg : FGood g lim ⟨y.s, k⟩ := ⟨HI.out.2.1.good, hfi.rest.kok⟩
                have hfd := (hfg.defn j1 j2 j3 j4 hfull).1
                have h4 := hfi.defn hfd.rest (by show y.s.t.length + 1 ≤ 1000; omega)
                rw [← HM.out] at h4
                exact h4, hrem⟩, h3⟩
            have HN : Hid (LGood g lim { y with s := defS m y.s z c } ∧ LLive { y with s := defS m y.s z c } ∧ lpot lim { y with s := defS m y.s z c } < lpot lim y) := Lib.hid ⟨d1, d2 HI.out.2.2, d3⟩
            have HRN : Hid (∀ W, StFB K 176 (exL vr y.r y.lost y.removed y.looks) bl cs base b m lim W ⟨y.s, k⟩ → Calls Try.prog 201 #[.pointer (some ⟨b, 0, none⟩)] W fun e w' => e = .returned (.bool false) ∧ ∃ q, w' = W.drewN q) := Lib.hid fun W h => room201_not K vr g m base b lim W y (HLK.out W h) hfull hlim
            clear k1 k2 hstep HSC h1 hsc hkk hs2 hfi hrn hrl hrem hFG j1 j2 j3 j4 hk1 hfull hcm d1 d2 d3 HLK
            generalize hy2 : ({ y with s := defS m y.s z c } : LS) = y2 at *
            clear hy2
            go_wp2_with (first
              | (go_at_call 201; (with_reducible refine (HRN.out _ HS1.out).mono ?_); rintro E w2 ⟨rfl, q, rfl⟩
                 have HS2 := Lib.hid (HS1.out.below (below_drewN (Below.refl _ _) q))
                 have HB2 : Hid (Keeps base K w (w1.drewN q)) := Lib.hid (HB1.out.trans ⟨below_drewN (Below.refl _ _) _, fun _ _ => rfl⟩))
              | (go_at_call 197; (with_reducible refine (HD.out _ HS2.out (Nat.le_trans HBW.out HB2.out.size)).mono ?_); rintro E w3 ⟨rfl, hs3, hb3⟩
                 have HS3 := Lib.hid hs3
                 have HB3 := Lib.hid (HB2.out.trans hb3)
                 clear hs3 hb3))
            go_roundw
            case rel => exact ⟨y2, Lib.hid ⟨HS3.out, HN.out.1, HN.out.2.1⟩, HE, HB3⟩
            case measure =>
              rw [HPOT.out, HS3.out.pot]
              exact HN.out.2.2
          · have HRM := Lib.hid (fun W (h : StFB K 176 (exL vr y.r y.lost y.removed y.looks) bl cs base b m lim W ⟨y.s, k⟩) (hk : Keeps base K w W) => room201_any K vr g m base b lim HM.out W y rels (HLK.out W h) HI.out.2.1 (Nat.le_trans HBW.out hk.size) hrn (by omega) (fun W' hk' => HVV.out W' (hk.trans hk')) HRR.out HWR.out)
            have hgood := fun y1 h => room_good (rels := rels) (fun j _ => HRR.out j) HI.out.2.1 hrn (y := y1) h
            have hpot := fun y1 h => room_pot (rels := rels) (fun j _ => HRR.out j) HI.out.2.1 hrn (y := y1) h
            rw [← HM.out] at hgood hpot
            simp only [if_neg hfull] at hstep
            cases hroom : roomL m rels y with
            | none =>
              rw [hroom] at HRM hstep
              have HE : Hid (F = none) := Lib.hid hstep
              have HRM' : Hid (∀ W, StFB K 176 (exL vr y.r y.lost y.removed y.looks) bl cs base b m lim W ⟨y.s, k⟩ → Keeps base K w W → Calls Try.prog 201 #[.pointer (some ⟨b, 0, none⟩)] W fun e w' => e = .panicked fullF ∧ Keeps base K W w') := Lib.hid fun W h hk => (HRM.out W h hk).mono fun e w' ⟨h1, h2⟩ => by
                rcases h1 with ⟨y1, h1, -⟩ | ⟨-, h1⟩
                · cases h1
                · exact ⟨h1, h2⟩
              clear k1 k2 hstep HSC h1 hsc hkk hs2 hfi hrn hrl hrem hFG j1 j2 j3 j4 hk1 hfull hcm HLK HRM hgood hpot hroom
              go_wp2_with (first
                | (go_at_call 201; (with_reducible refine (HRM'.out _ HS1.out HB1.out).mono ?_); rintro E w2 ⟨rfl, hb2⟩
                   have HB2 := Lib.hid (HB1.out.trans hb2)
                   clear hb2))
              exact ⟨rfl, .inr ⟨HE.out, rfl⟩, HB2.out⟩
            | some y1 =>
              rw [hroom] at HRM hstep
              have HE : Hid (Ct.fillL m lim rels y1 ws = F) := Lib.hid hstep.symm
              have HRM' : Hid (∀ W, StFB K 176 (exL vr y.r y.lost y.removed y.looks) bl cs base b m lim W ⟨y.s, k⟩ → Keeps base K w W → Calls Try.prog 201 #[.pointer (some ⟨b, 0, none⟩)] W fun e w' => e = .returned (.bool true) ∧ LkF K vr g base b m lim w' y1 ∧ Keeps base K W w') := Lib.hid fun W h hk => (HRM.out W h hk).mono fun e w' ⟨h1, h2⟩ => by
                rcases h1 with ⟨y2, h1, h3, h4⟩ | ⟨h1, -⟩
                · cases h1
                  exact ⟨h3, h4, h2⟩
                · cases h1
              have HN : Hid (LGood g lim y1 ∧ LLive y1 ∧ lpot lim y1 < lpot lim y) := Lib.hid ⟨(hgood y1 hroom).1, (hgood y1 hroom).2.1, hpot y1 hroom⟩
              clear k1 k2 hstep HSC h1 hsc hkk hs2 hfi hrn hrl hrem hFG j1 j2 j3 j4 hk1 hfull hcm HLK HRM hgood hpot hroom
              go_wp2_with (first
                | (go_at_call 201; (with_reducible refine (HRM'.out _ HS1.out HB1.out).mono ?_); rintro E w2 ⟨rfl, hs2, hb2⟩
                   have HS2 := Lib.hid hs2
                   have HB2 := Lib.hid (HB1.out.trans hb2)
                   clear hs2 hb2))
              go_roundw
              case rel => exact ⟨y1, Lib.hid ⟨HS2.out, HN.out.1, HN.out.2.1⟩, HE, HB2⟩
              case measure =>
                rw [HPOT.out, HS2.out.pot]
                exact HN.out.2.2
end Go.Proofs
namespace Go.Proofs
open Go.RowKit Go.Shelf Go.Proofs.Ct Go.Maps
set_option maxRecDepth 100000 in
set_option maxHeartbeats 4000000 in
theorem columns202_any (K : Nat → Prop) (vr : Value) (g m base b lim : Nat) (hm : m = 2 * g) (w : World) (x : LS) (rels : List W) (hS : LkF K vr g base b m lim w x) (hG : LGood g lim x) (hLL : LLive x) (hbw : base ≤ w.heap.size) (hlim : lim ≤ 1000)
    (hv : ∀ W, Keeps base K w W → Tab W vr rels) (hr : ∀ j, LOk g (rels.getD j [])) (hwr : ∀ j, (rels.getD j []).length ≤ 1000000) :
    Calls Try.prog 202 #[.pointer (some ⟨b, 0, none⟩)] w fun e w' => ((∃ y, colL m lim rels x 0 = some y ∧ e = .returned (.tuple #[]) ∧ LkF K vr g base b m lim w' y) ∨ (colL m lim rels x 0 = none ∧ e = .panicked fullF)) ∧ Keeps base K w w' := by
  have HREL : Hid (LkF K vr g base b m lim w x ∧ LGood g lim x ∧ LLive x) := Lib.hid ⟨hS, hG, hLL⟩
  generalize hfe : colL m lim rels x 0 = F at *
  have HBW := Lib.hid hbw
  have HVV := Lib.hid hv
  have HRR := Lib.hid hr
  have HWR := Lib.hid hwr
  have HM := Lib.hid hm
  have HT : Hid (TyF 176) := Lib.hid ⟨by decide, by decide, by decide⟩
  have hm0 : (m : Int) ≤ 32 := by
    obtain ⟨k, -, hfi, -⟩ := hS
    have := hfi.g16
    omega
  clear hG hS hLL hbw hv hr hwr hm
  have HFE := Lib.hid hfe
  clear hfe
  go_enter Try.func202, Try.ntmps202
  go_wp2_with fail
  go_loopw [2] (fun i wr => ∃ (c : Nat) (y : LS), i = .int .i64 (c : Int) ∧ c ≤ m ∧ Hid (LkF K vr g base b m lim wr y ∧ LGood g lim y ∧ LLive y) ∧ Hid (colL m lim rels y c = F) ∧ Hid (Keeps base K w wr)) (fun i wr => lpotIn lim b wr * (m + 2) + (m - (intOf i).toNat))
  case atStart => exact ⟨0, x, rfl, Nat.zero_le _, HREL, HFE, Lib.hid (Keeps.refl _ _ _)⟩
  case round =>
    obtain ⟨c, y, rfl, hcm0, HI, HF1, HB⟩ := hrel
    clear HREL HFE
    have hc0 : (0 : Int) ≤ (c : Int) := Int.natCast_nonneg _
    have hstep := colL_step (rels := rels) (c := c) (fun j _ => HRR.out j) HI.out.2.1 HI.out.2.2
    rw [← HM.out, HF1.out] at hstep
    have hlk := HI.out.1
    obtain ⟨k, hst, hfi, hrem⟩ := hlk
    obtain ⟨c0, c1, ⟨A2, cr2, c2⟩, -, -, c9, c10, -, -, hfr⟩ := hst.look
    have HPOT : Hid (lpotIn lim b wr = lpot lim y) := Lib.hid HI.out.1.pot
    have HKD : Hid (∀ q, LkF K vr g base b m lim (wr.drewN q) y ∧ Keeps base K w (wr.drewN q)) := Lib.hid fun q => ⟨HI.out.1.below (below_drewN (Below.refl _ _) q), HB.out.trans ⟨below_drewN (Below.refl _ _) _, fun _ _ => rfl⟩⟩
    clear c1 hfr
    cases hlo : y.lost with
    | true =>
      rw [hlo] at c10
      have HE : Hid (F = some y) := Lib.hid (by rw [hstep, if_pos (.inl hlo)])
      clear hstep hst hfi hrem c2
      go_wp2_with fail
      go_end0
      exact ⟨.inl ⟨y, HE.out, (by first | rfl | trivial), HI.out.1⟩, HB.out⟩
    | false =>
      rw [hlo] at c10
      by_cases hcm : c < m
      · have hcI : (c : Int) < (m : Int) := by omega
        rw [if_neg (by rw [hlo]; simp; omega)] at hstep
        obtain ⟨hrn, hrl⟩ := HI.out.2.2 hlo
        obtain ⟨bl, cs, h1⟩ := hst
        have hn1 := hfi.n
        obtain ⟨gr, cr, a1, a2, a3⟩ := h1.at_ hfi.rest.rest.inv hrn (c := c) (by rw [← HM.out]; exact hcm)
        obtain ⟨hb1, hb2⟩ := hfi.rest.rest.inv.bd _ hrn c (by rw [← HM.out]; exact hcm)
        have hb3 : y.s.t.at y.r c ≤ 1000 := by
          have h : y.s.t.length ≤ 1000 := hn1
          have h2 : y.s.t.at y.r c < (y.s.t.length : Int) := hb2
          omega
        rw [← HM.out] at a2
        rw [a1] at c2
        cases c2
        have hr0 : (0 : Int) ≤ (y.r : Int) := Int.natCast_nonneg _
        have hrI : (y.r : Int) < (y.s.t.length : Int) := by omega
        have hnI : (y.s.t.length : Int) ≤ 1000 := by have h : y.s.t.length ≤ 1000 := hn1; omega
        have hbb : -1 ≤ y.s.t.at y.r c := hb1
        clear hb1 hb2
        by_cases h0 : 0 ≤ y.s.t.at y.r c
        · rw [if_pos h0] at hstep
          have HE : Hid (colL m lim rels y (c + 1) = F) := Lib.hid hstep.symm
          clear hstep h1 hfi hrem
          dsimp only at *
          generalize y.s.t.at y.r c = z at *
          go_wp2_with fail
          go_quiet (fail)
          go_wp2_with fail
          go_roundw
          case rel => exact ⟨c + 1, y, by go_num, by omega, Lib.hid ⟨(HKD.out _).1, HI.out.2⟩, HE, Lib.hid (HKD.out _).2⟩
          case measure =>
            rw [HPOT.out, (HKD.out _).1.pot]
            simp [intOf]; omega
        · rw [if_neg h0] at hstep
          have h0' : y.s.t.at y.r c < 0 := by omega
          have hk1 : k.length ≤ 1000000000000 := by have h : k.length + _ ≤ _ := hfi.k; omega
          have HST : Hid (∀ q1 q2, StFB K 176 (exL vr y.r y.lost y.removed y.looks) bl cs base b m lim (((wr.drewN q1).drewN q2).drew) ⟨y.s, k⟩ ∧ base ≤ (((wr.drewN q1).drewN q2).drew).heap.size ∧ Keeps base K w (((wr.drewN q1).drewN q2).drew) ∧ ((wr.drewN q1).drewN q2).cell? ⟨b, 9, none⟩ = some (.int .i64 (y.r : Int))) := Lib.hid fun q1 q2 => by
            have hb : Below wr.heap.size wr (((wr.drewN q1).drewN q2).drew) := (below_drewN (below_drewN (Below.refl _ _) _) _).drew
            exact ⟨h1.below hb, Nat.le_trans HBW.out (Nat.le_trans HB.out.size hb.size), HB.out.trans ⟨hb.mono (Nat.le_trans HBW.out HB.out.size), fun _ _ => rfl⟩, c9⟩
          by_cases hfull : y.s.t.length < lim
          · rw [if_pos hfull] at hstep
            have hc2 : c < 2 * g := by rw [← HM.out]; exact hcm
            obtain ⟨d1, d2, d3⟩ := HI.out.2.1.defn hrn hc2 hrl h0' hfull
            have hedge := (hfi.rest.rest.defn hrn hc2 hrl h0').2.2
            have hstep2 := colL_step (rels := rels) (c := c) (fun j _ => HRR.out j) d1 (d2 HI.out.2.2)
            rw [← HM.out] at d1 d2 d3 hstep2 hedge
            have HE : Hid (colL m lim rels { y with s := defS m y.s y.r c } c = F) := Lib.hid (by
              rw [hstep2, hstep, if_neg (by show ¬ (y.lost = true ∨ m ≤ c); rw [hlo]; simp; omega), if_pos]
              have h : (defS m y.s y.r c).t.at y.r c = (y.s.t.length : Int) := hedge
              show 0 ≤ (defS m y.s y.r c).t.at y.r c
              rw [h]
              exact Int.natCast_nonneg _)
            have HD : Hid (∀ W, StFB K 176 (exL vr y.r y.lost y.removed y.looks) bl cs base b m lim W ⟨y.s, k⟩ → base ≤ W.heap.size → Calls Try.prog 197 #[.pointer (some ⟨b, 0, none⟩), .int .i64 (y.r : Int), .int .i64 (c : Int)] W fun e w' => e = .returned (.tuple #[]) ∧ LkF K vr g base b m lim w' { y with s := defS m y.s y.r c } ∧ Keeps base K W w') := Lib.hid fun W h hw =>
              (define197_any K 176 _ bl cs g m base b lim y.r c HM.out hfi.g16 W ⟨y.s, k⟩ HT.out hfi.rest.rest h hw (by show y.s.t.length + 1 ≤ _; omega) hrn hcm (by omega) hfull hk1).mono fun e w' ⟨h1, h2, h3⟩ => ⟨h1, ⟨_, h2, by
                have hfg : FGood g lim ⟨y.s, k⟩ := ⟨HI.out.2.1.good, hfi.rest.kok⟩
                have hfd := (hfg.defn hrn hc2 hrl h0' hfull).1
                have h4 := hfi.defn hfd.rest (by show y.s.t.length + 1 ≤ 1000; omega)
                rw [← HM.out] at h4
                exact h4, hrem⟩, h3⟩
            have HN : Hid (LGood g lim { y with s := defS m y.s y.r c } ∧ LLive { y with s := defS m y.s y.r c } ∧ lpot lim { y with s := defS m y.s y.r c } < lpot lim y) := Lib.hid ⟨d1, d2 HI.out.2.2, d3⟩
            have HRN : Hid (∀ q, Calls Try.prog 201 #[.pointer (some ⟨b, 0, none⟩)] (wr.drewN q) fun e w' => e = .returned (.bool false) ∧ StFB K 176 (exL vr y.r y.lost y.removed y.looks) bl cs base b m lim w'.drew ⟨y.s, k⟩ ∧ base ≤ w'.drew.heap.size ∧ Keeps base K w w'.drew ∧ w'.cell? ⟨b, 9, none⟩ = some (.int .i64 (y.r : Int))) := Lib.hid fun q => (room201_not K vr g m base b lim (wr.drewN q) y (HKD.out q).1 hfull hlim).mono fun e w' ⟨h1, q2, h2⟩ => ⟨h1, by rw [h2]; exact HST.out q q2⟩
            clear hstep hstep2 h1 hfi hrn hrl hrem hk1 hfull d1 d2 d3 hedge hc2
            dsimp only at *
            generalize hy2 : ({ y with s := defS m y.s y.r c } : LS) = y2 at *
            clear hy2
            generalize y.s.t.at y.r c = z at *
            go_wp2_with fail
            go_quiet (fail)
            go_wp2_with (go_at_call 201; (with_reducible refine (HRN.out _).mono ?_); rintro E w2 ⟨rfl, hs2, hz2, hk2, c9'⟩; have HS2 := Lib.hid hs2; have HZ2 := Lib.hid hz2; have HK2 := Lib.hid hk2; clear hs2 hz2 hk2)
            go_still_tail 8, (by kernel_rfl)
            go_wp2_with (go_at_call 197; (with_reducible refine (HD.out _ HS2.out HZ2.out).mono ?_); rintro E w3 ⟨rfl, hs3, hb3⟩
                         have HS3 := Lib.hid hs3
                         have HB3 := Lib.hid (HK2.out.trans hb3)
                         clear hs3 hb3)
            go_roundw
            case rel => exact ⟨c, y2, rfl, hcm0, Lib.hid ⟨HS3.out, HN.out.1, HN.out.2.1⟩, HE, HB3⟩
            case measure =>
              rw [HPOT.out, HS3.out.pot]
              have h := HN.out.2.2
              have h2 : (lpot lim y2 + 1) * (m + 2) ≤ lpot lim y * (m + 2) := Nat.mul_le_mul_right _ h
              rw [Nat.add_mul] at h2
              simp [intOf]; omega
          · rw [if_neg hfull] at hstep
            have HRM := Lib.hid (fun q => room201_any K vr g m base b lim HM.out (wr.drewN q) y rels (HKD.out q).1 HI.out.2.1 (Nat.le_trans HBW.out (HKD.out q).2.size) hrn (by omega) (fun W' hk' => HVV.out W' ((HKD.out q).2.trans hk')) HRR.out HWR.out)
            have hgood := fun y1 h => room_good (rels := rels) (fun j _ => HRR.out j) HI.out.2.1 hrn (y := y1) h
            have hpot := fun y1 h => room_pot (rels := rels) (fun j _ => HRR.out j) HI.out.2.1 hrn (y := y1) h
            rw [← HM.out] at hgood hpot
            cases hroom : roomL m rels y with
            | none =>
              rw [hroom] at HRM hstep
              have HE : Hid (F = none) := Lib.hid hstep
              have HRM' : Hid (∀ q, Calls Try.prog 201 #[.pointer (some ⟨b, 0, none⟩)] (wr.drewN q) fun e w' => e = .panicked fullF ∧ Keeps base K (wr.drewN q) w') := Lib.hid fun q => (HRM.out q).mono fun e w' ⟨h1, h2⟩ => by
                rcases h1 with ⟨y1, h1, -⟩ | ⟨-, h1⟩
                · cases h1
                · exact ⟨h1, h2⟩
              clear hstep h1 hfi hrn hrl hrem hk1 hfull HRM hgood hpot hroom
              dsimp only at *
              generalize y.s.t.at y.r c = z at *
              go_wp2_with fail
              go_quiet (fail)
              go_wp2_with (go_at_call 201; (with_reducible refine (HRM'.out _).mono ?_); rintro E w2 ⟨rfl, hb2⟩
                           have HB2 := Lib.hid ((HKD.out _).2.trans hb2)
                           clear hb2)
              exact ⟨rfl, .inr ⟨HE.out, rfl⟩, HB2.out⟩
            | some y1 =>
              rw [hroom] at HRM hstep
              have HE : Hid (colL m lim rels y1 0 = F) := Lib.hid hstep.symm
              have HRM' : Hid (∀ q, Calls Try.prog 201 #[.pointer (some ⟨b, 0, none⟩)] (wr.drewN q) fun e w' => e = .returned (.bool true) ∧ LkF K vr g base b m lim w' y1 ∧ Keeps base K (wr.drewN q) w') := Lib.hid fun q => (HRM.out q).mono fun e w' ⟨h1, h2⟩ => by
                rcases h1 with ⟨y2, h1, h3, h4⟩ | ⟨h1, -⟩
                · cases h1
                  exact ⟨h3, h4, h2⟩
                · cases h1
              have HN : Hid (LGood g lim y1 ∧ LLive y1 ∧ lpot lim y1 < lpot lim y) := Lib.hid ⟨(hgood y1 hroom).1, (hgood y1 hroom).2.1, hpot y1 hroom⟩
              clear hstep h1 hfi hrn hrl hrem hk1 hfull HRM hgood hpot hroom
              dsimp only at *
              generalize y.s.t.at y.r c = z at *
              go_wp2_with fail
              go_quiet (fail)
              go_wp2_with (go_at_call 201; (with_reducible refine (HRM'.out _).mono ?_); rintro E w2 ⟨rfl, hs2, hb2⟩
                           have HS2 := Lib.hid hs2
                           have HB2 := Lib.hid ((HKD.out _).2.trans hb2)
                           clear hs2 hb2)
              go_roundw
              case rel => exact ⟨0, y1, rfl, Nat.zero_le _, Lib.hid ⟨HS2.out, HN.out.1, HN.out.2.1⟩, HE, HB2⟩
              case measure =>
                rw [HPOT.out, HS2.out.pot]
                have h := HN.out.2.2
                have h2 : (lpot lim y1 + 1) * (m + 2) ≤ lpot lim y * (m + 2) := Nat.mul_le_mul_right _ h
                rw [Nat.add_mul] at h2
                simp [intOf]; omega
      · obtain rfl : m = c := by omega
        have HE : Hid (F = some y) := Lib.hid (by rw [hstep, if_pos (.inr (Nat.le_refl _))])
        clear hstep hst hfi hrem c2
        go_wp2_with fail
        go_end0
        exact ⟨.inl ⟨y, HE.out, (by first | rfl | trivial), HI.out.1⟩, HB.out⟩
end Go.Proofs
namespace Go.Proofs.Ct
structure LI (g : Nat) (rels sub : List W) (js : Nat) (x : LS) : Prop where
  comp : Comp g x.s x.r
  rc : RC rels x.s x.r
  subc : ∀ j, j < js → Clo x.s 0 (sub.getD j [])
  univ : ∀ {α : Type} {D : α → Prop} {act : α → Nat → α} {p0 : α}, Mdl g rels D act → D p0 → (∀ j, j < sub.length → actW act p0 (sub.getD j []) = p0) → ∃ f, Mp g D act x.s f ∧ f 0 = p0
def Fit (rels sub : List W) (x : LS) (w : W) : Prop := (∃ i, i < rels.length ∧ w = rels.getD i []) ∨ (x.r = 0 ∧ ∃ j, j < sub.length ∧ w = sub.getD j [])
structure LTo (g lim : Nat) (rels sub : List W) (x y : LS) : Prop where
  good : LGood g lim y
  stay : x.lost = true → y = x
  lt : y.lost = false → y.r < y.s.t.length
  looks : x.looks ≤ y.looks
  same : y.looks = x.looks → y.r = x.r ∧ y.removed = x.removed ∧ y.lost = x.lost ∧ x.s.t.length ≤ y.s.t.length
  zero : x.r = 0 → x.lost = false → y.r = 0 ∧ y.lost = false
  keep : ∀ v, LOk g v → x.lost = false → y.lost = false → Clo x.s x.r v → Clo y.s y.r v
  keepc : ∀ c, c < 2 * g → x.lost = false → y.lost = false → 0 ≤ x.s.t.at (x.s.rp x.r) c → 0 ≤ y.s.t.at (y.s.rp y.r) c
  li : ∀ js, js ≤ sub.length → LI g rels sub js x → LI g rels sub js y
section
variable {g lim : Nat} {rels sub : List W} {x y z : LS}
theorem LTo.refl (h : LGood g lim x) (hl : x.lost = false → x.r < x.s.t.length) : LTo g lim rels sub x x := ⟨h, fun _ => rfl, hl, Nat.le_refl _, fun _ => ⟨rfl, rfl, rfl, Nat.le_refl _⟩, fun a b => ⟨a, b⟩, fun _ _ _ _ h => h, fun _ _ _ _ h => h, fun _ _ h => h⟩
theorem LTo.trans (a : LTo g lim rels sub x y) (b : LTo g lim rels sub y z) : LTo g lim rels sub x z := by
  have hyl : z.lost = false → y.lost = false := fun h => by
    cases e : y.lost with
    | false => rfl
    | true => rw [b.stay e, e] at h; cases h
  refine ⟨b.good, fun h => ?_, b.lt, Nat.le_trans a.looks b.looks, fun h => ?_, fun h1 h2 => ?_, fun v hv h1 h2 h3 => ?_, fun c hc h1 h2 h3 => ?_, fun js hj h => b.li js hj (a.li js hj h)⟩
  · have e := a.stay h
    rw [b.stay (by rw [e]; exact h), e]
  · have h1 := a.looks
    have h2 := b.looks
    obtain ⟨a1, a2, a3, a4⟩ := a.same (by omega)
    obtain ⟨b1, b2, b3, b4⟩ := b.same (by omega)
    exact ⟨b1.trans a1, b2.trans a2, b3.trans a3, Nat.le_trans a4 b4⟩
  · obtain ⟨a1, a2⟩ := a.zero h1 h2
    exact b.zero a1 a2
  · exact b.keep v hv (hyl h2) h2 (a.keep v hv h1 (hyl h2) h3)
  · exact b.keepc c hc (hyl h2) h2 (a.keepc c hc h1 (hyl h2) h3)
theorem LI.ext {js : Nat} (hr : ∀ j, j < rels.length → LOk g (rels.getD j [])) (hs : ∀ j, j < sub.length → LOk g (sub.getD j [])) (hj : js ≤ sub.length) (h : LI g rels sub js x) (hG : LGood g lim x) {s' : St} (hE : Ext g x.s s')
    (hU : ∀ {α : Type} {D : α → Prop} {act : α → Nat → α} {p0 : α} {f : Nat → α}, Mdl g rels D act → D p0 → (∀ j, j < sub.length → actW act p0 (sub.getD j []) = p0) → Mp g D act x.s f → f 0 = p0 → ∃ f', Mp g D act s' f' ∧ f' 0 = p0) : LI g rels sub js { x with s := s' } := by
  refine ⟨Comp.ext hG.good.rest hE hG.rr h.comp, RC.ext hG.good.rest hE hr hG.rr h.rc, fun j hjl => (h.subc j hjl).ext hG.good.rest hE hG.good.n1 (hs j (by omega)), fun {α D act p0} hM h0 hp => ?_⟩
  obtain ⟨f, hf, hf0⟩ := h.univ hM h0 hp
  exact hU hM h0 hp hf hf0
theorem LTo.ext (hr : ∀ j, j < rels.length → LOk g (rels.getD j [])) (hs : ∀ j, j < sub.length → LOk g (sub.getD j [])) (h : LGood g lim x) (hlo : x.lost = false) (hx : x.r < x.s.t.length) {s' : St} (hG : LGood g lim { x with s := s' }) (hE : Ext g x.s s')
    (hU : ∀ {α : Type} {D : α → Prop} {act : α → Nat → α} {p0 : α} {f : Nat → α}, Mdl g rels D act → D p0 → (∀ j, j < sub.length → actW act p0 (sub.getD j []) = p0) → Mp g D act x.s f → f 0 = p0 → ∃ f', Mp g D act s' f' ∧ f' 0 = p0) : LTo g lim rels sub x { x with s := s' } := by
  refine ⟨hG, (fun e => by rw [hlo] at e; cases e), fun _ => ?_, Nat.le_refl _, fun _ => ⟨rfl, rfl, rfl, hE.n⟩, fun a b => ⟨a, b⟩, fun v hv _ _ hc => hc.ext h.good.rest hE hx hv, fun c hc _ _ h0 => ?_, fun js hj hl => hl.ext hr hs hj h hE hU⟩
  · exact Nat.lt_of_lt_of_le hx hE.n
  · obtain ⟨y, hy⟩ := Int.eq_ofNat_of_zero_le h0
    have h1 := hE.edge (x.s.rp x.r) c y (h.good.rest.inv.rlt hx) hc hy
    rw [hE.coarse _ hx] at h1
    unfold Edge at h1
    show 0 ≤ s'.t.at (s'.rp x.r) c
    rw [h1]
    exact Int.natCast_nonneg _
theorem LTo.scan (hr : ∀ j, j < rels.length → LOk g (rels.getD j [])) (hs : ∀ j, j < sub.length → LOk g (sub.getD j [])) (h : LGood g lim x) (hlo : x.lost = false) (hx : x.r < x.s.t.length) (hl : x.s.rp x.r = x.r) {w : W} (hw : LOk g w) (hfit : Fit rels sub x w) (ho : (scanS (2 * g) x.s x.r w).2 = none) :
    LTo g lim rels sub x { x with s := (scanS (2 * g) x.s x.r w).1 } ∧ Clo (scanS (2 * g) x.s x.r w).1 x.r w := by
  have es : scanS (2 * g) x.s x.r w = ((scanS (2 * g) x.s x.r w).1, none) := by rw [← ho]
  obtain ⟨a1, a2, a3, a4⟩ := (scan_rest h.good.rest hx hl hw).1 _ es
  refine ⟨LTo.ext hr hs h hlo hx (h.scan a1 a2 a3 a4) a2 fun {α D act p0 f} hM h0 hp hm hf => ⟨f, ?_, hf⟩, scan_closed h.good.rest hx hl hw es⟩
  refine scan_mp hM hm h.good.rest hx hl hw ?_ _ es
  rcases hfit with ⟨i, hi, rfl⟩ | ⟨h1, j, hj, rfl⟩
  · exact hM.rel _ i (hm.dom _ hx) hi
  · rw [h1, hf]; exact hp j hj
theorem LTo.defn (hr : ∀ j, j < rels.length → LOk g (rels.getD j [])) (hs : ∀ j, j < sub.length → LOk g (sub.getD j [])) (h : LGood g lim x) (hlo : x.lost = false) (hx : x.r < x.s.t.length) {u c : Nat} (hu : u < x.s.t.length) (hc : c < 2 * g) (hl : x.s.rp u = u) (h1 : x.s.t.at u c < 0) (hroom : x.s.t.length < lim) :
    LTo g lim rels sub x { x with s := defS (2 * g) x.s u c } := by
  refine LTo.ext hr hs h hlo hx (h.defn hu hc hl h1 hroom).1 (h.good.defn hu hc hl h1 hroom).2 fun {α D act p0 f} hM h0 hp hm hf => ⟨_, hm.defn hM h.good.rest.inv hu hc, ?_⟩
  have := h.good.n1
  rw [if_neg (by omega)]
  exact hf
theorem LTo.room (hr : ∀ j, j < rels.length → LOk g (rels.getD j [])) (hs : ∀ j, j < sub.length → LOk g (sub.getD j [])) (h : LGood g lim x) (hlo : x.lost = false) (hx : x.r < x.s.t.length) {y : LS} (e : roomL (2 * g) rels x = some y) : LTo g lim rels sub x y := by
  obtain ⟨g1, g2, g3, g4, g5, g6, g7⟩ := room_good hr h hx e
  unfold roomL at e
  obtain ⟨a, b, c, d⟩ := lkTo_F hr h.good.rest (Nat.le_refl x.s.t.length)
  have hmp : ∀ {α : Type} {D : α → Prop} {act : α → Nat → α} {f : Nat → α}, Mdl g rels D act → Mp g D act x.s f → Mp g D act (lkTo (2 * g) rels x.s.t.length x.s) f := fun hM hm => lkTo_mp hM hr h.good.rest hm (Nat.le_refl _)
  generalize lkTo (2 * g) rels x.s.t.length x.s = s1 at *
  split at e
  · cases e
  · split at e
    · cases e
    · cases e
      have hG : Good g lim s1 := h.good.of_ext a b c d
      have hx1 : x.r < s1.t.length := by omega
      have hlv : decide (s1.rp x.r ≠ x.r) = false → s1.rp x.r = x.r := fun h => by simpa using h
      refine ⟨g1, (fun e => by rw [hlo] at e; cases e), fun hl => (g2 hl).1, by show x.looks ≤ x.looks + 1; omega, fun hh => ?_, fun h0 _ => ?_, fun v hv _ hl hc => ?_, fun c' hc' _ hl h0 => ?_, fun js hj hl => ?_⟩
      · have hh' : x.looks + 1 = x.looks := hh
        omega
      · refine ⟨?_, ?_⟩
        · show num s1 x.r = 0
          rw [h0]; rfl
        · show decide (s1.rp x.r ≠ x.r) = false
          rw [h0, rp_zero a hG.n1]
          simp
      · have hl' := hlv hl
        have h1 := hc.ext h.good.rest b hx hv
        obtain ⟨k1, k2⟩ := num_liv hx1 hl'
        exact clo_sq a k1 hv (by rw [k2]; exact h1)
      · have hl' := hlv hl
        obtain ⟨k1, k2⟩ := num_liv hx1 hl'
        obtain ⟨y, hy⟩ := Int.eq_ofNat_of_zero_le h0
        have h1 := b.edge (x.s.rp x.r) c' y (h.good.rest.inv.rlt hx) hc' hy
        rw [b.coarse _ hx, hl'] at h1
        have h2 := (sq_edge a hx1 hc' h1).2.2
        show 0 ≤ (sqS s1).t.at ((sqS s1).rp (num s1 x.r)) c'
        rw [rp_sq k1]
        unfold Edge at h2
        rw [h2]
        exact Int.natCast_nonneg _
      · refine ⟨Comp.sq a (Comp.ext h.good.rest b h.rr hl.comp), RC.sq a hr (RC.ext h.good.rest b hr h.rr hl.rc), fun j hjl => clo_sq0 hG (hs j (by omega)) ((hl.subc j hjl).ext h.good.rest b h.good.n1 (hs j (by omega))), fun {α D act p0} hM h0 hp => ?_⟩
        obtain ⟨f, hf, hf0⟩ := hl.univ hM h0 hp
        exact ⟨_, Mp.sq a (hmp hM hf), by show f ((liv s1).getD 0 0) = p0; rw [liv_zero hG]; exact hf0⟩
theorem fillL_to (hr : ∀ j, j < rels.length → LOk g (rels.getD j [])) (hs : ∀ j, j < sub.length → LOk g (sub.getD j [])) {w : W} (hw : LOk g w) : ∀ (n : Nat) {x : LS}, lpot lim x ≤ n → LGood g lim x → LLive x → Fit rels sub x w → ∀ y, fillL (2 * g) lim rels x w = some y →
    LTo g lim rels sub x y ∧ (y.lost = false → Clo y.s y.r w)
  | 0, x, hn, _, _, _, _, _ => by unfold lpot at hn; omega
  | n + 1, x, hn, h, hl, hfit, y, e => by
    rw [fillL_step hr hw h hl] at e
    by_cases hlo : x.lost = true
    · rw [if_pos hlo] at e
      cases e
      exact ⟨.refl h (fun h' => by rw [hlo] at h'; cases h'), fun h' => by rw [hlo] at h'; cases h'⟩
    · rw [if_neg hlo] at e
      have hlf : x.lost = false := by simpa using hlo
      obtain ⟨h1, h2⟩ := hl hlf
      cases ho : (scanS (2 * g) x.s x.r w).2 with
      | none =>
        rw [ho] at e
        cases e
        obtain ⟨a, b⟩ := LTo.scan hr hs h hlf h1 h2 hw hfit ho
        exact ⟨a, fun _ => b⟩
      | some uc =>
        obtain ⟨u, c⟩ := uc
        rw [ho] at e
        simp only at e
        obtain ⟨-, b2, b3, b4, b5⟩ := (scan_rest h.good.rest h1 h2 hw).2 (scanS (2 * g) x.s x.r w).1 u c (by rw [← ho])
        by_cases hf : x.s.t.length < lim
        · rw [if_pos hf] at e
          obtain ⟨c1, c2, c3⟩ := h.defn b2 b3 b4 b5 hf
          obtain ⟨d1, d2⟩ := fillL_to hr hs hw n (by omega) c1 (c2 hl) hfit y e
          exact ⟨(LTo.defn hr hs h hlf h1 b2 b3 b4 b5 hf).trans d1, d2⟩
        · rw [if_neg hf] at e
          cases hy : roomL (2 * g) rels x with
          | none => rw [hy] at e; cases e
          | some x' =>
            rw [hy] at e
            simp only at e
            obtain ⟨c1, c2, -⟩ := room_good hr h h1 hy
            have c3 := room_pot hr h h1 hy
            have c4 := LTo.room (sub := sub) hr hs h hlf h1 hy
            obtain ⟨d1, d2⟩ := fillL_to hr hs hw n (by omega) c1 c2 (by
              rcases hfit with hf | ⟨hf1, hf2⟩
              · exact .inl hf
              · exact .inr ⟨(c4.zero hf1 hlf).1, hf2⟩) y e
            exact ⟨c4.trans d1, d2⟩
theorem colL_to (hr : ∀ j, j < rels.length → LOk g (rels.getD j [])) (hs : ∀ j, j < sub.length → LOk g (sub.getD j [])) : ∀ (n : Nat) {x : LS} {c : Nat}, cpot (2 * g) lim x c ≤ n → LGood g lim x → LLive x → (x.lost = false → ∀ d, d < c → 0 ≤ x.s.t.at x.r d) → ∀ y, colL (2 * g) lim rels x c = some y →
    LTo g lim rels sub x y ∧ LLive y ∧ (y.lost = false → ∀ d, d < 2 * g → 0 ≤ y.s.t.at y.r d)
  | 0, x, c, hn, _, _, _, _, _ => by unfold cpot at hn; omega
  | n + 1, x, c, hn, h, hl, hd, y, e => by
    rw [colL_step hr h hl] at e
    by_cases hlo : x.lost = true ∨ 2 * g ≤ c
    · rw [if_pos hlo] at e
      cases e
      refine ⟨.refl h fun h' => (hl h').1, hl, fun h' d hdd => ?_⟩
      rcases hlo with hlo | hlo
      · rw [hlo] at h'; cases h'
      · exact hd h' d (by omega)
    · rw [if_neg hlo] at e
      have hlf : x.lost = false := by simpa using fun h => hlo (.inl h)
      obtain ⟨h1, h2⟩ := hl hlf
      have hc : c < 2 * g := by
        rcases Nat.lt_or_ge c (2 * g) with h' | h'
        · exact h'
        · exact absurd (.inr h') hlo
      by_cases h0 : 0 ≤ x.s.t.at x.r c
      · rw [if_pos h0] at e
        refine colL_to hr hs n (by unfold cpot at hn ⊢; omega) h hl (fun h' d hdd => ?_) y e
        rcases Nat.lt_or_ge d c with h3 | h3
        · exact hd h' d h3
        · obtain rfl : d = c := by omega
          exact h0
      · rw [if_neg h0] at e
        by_cases hf : x.s.t.length < lim
        · rw [if_pos hf] at e
          obtain ⟨c1, c2, c3⟩ := h.defn h1 hc h2 (by omega) hf
          have hlt := cpot_lt (m := 2 * g) (c := c) (d := c + 1) c3 (by omega)
          obtain ⟨r1, r2, r3⟩ := h.good.rest.defn h1 hc h2 (by omega)
          have hto := LTo.defn (sub := sub) hr hs h hlf h1 h1 hc h2 (by omega) hf
          have hcol : (LS.mk (defS (2 * g) x.s x.r c) x.r x.lost x.removed x.looks).lost = false → ∀ d, d < c + 1 → 0 ≤ (defS (2 * g) x.s x.r c).t.at x.r d := fun h' d hdd => by
            rcases Nat.lt_or_ge d c with h3 | h3
            · have h4 := hto.keepc d (by omega) hlf h' (by rw [h2]; exact hd hlf d h3)
              have h5 : (defS (2 * g) x.s x.r c).rp x.r = x.r := by rw [rp_def_old h.good.rest.inv _ _ _ h1]; exact h2
              have h6 : 0 ≤ (defS (2 * g) x.s x.r c).t.at ((defS (2 * g) x.s x.r c).rp x.r) d := h4
              rwa [h5] at h6
            · obtain rfl : d = c := by omega
              unfold Edge at r3
              rw [r3]
              exact Int.natCast_nonneg _
          obtain ⟨d1, d2, d3⟩ := colL_to hr hs n (by omega) c1 (c2 hl) hcol y e
          exact ⟨hto.trans d1, d2, d3⟩
        · rw [if_neg hf] at e
          cases hy : roomL (2 * g) rels x with
          | none => rw [hy] at e; cases e
          | some x' =>
            rw [hy] at e
            simp only at e
            obtain ⟨c1, c2, -⟩ := room_good hr h h1 hy
            have hlt := cpot_lt (m := 2 * g) (c := c) (d := 0) (room_pot hr h h1 hy) (by omega)
            obtain ⟨d1, d2, d3⟩ := colL_to hr hs n (by omega) c1 c2 (fun _ d hdd => absurd hdd (by omega)) y e
            exact ⟨(LTo.room (sub := sub) hr hs h hlf h1 hy).trans d1, d2, d3⟩
end
end Go.Proofs.Ct
namespace Go.Proofs.Ct
def relL (m lim : Nat) (rels : List W) (i : Nat) (x : LS) : Option LS := if x.lost = false ∧ x.s.rp x.r = x.r then fillL m lim rels x (rels.getD i []) else some x
def colsL (m lim : Nat) (rels : List W) (x : LS) : Option LS := if x.lost = false ∧ x.s.rp x.r = x.r then colL m lim rels x 0 else some x
def nextL (x : LS) : LS := if x.lost = true then x else { x with r := x.r + 1 }
def clrL (x : LS) : LS := { x with lost := false }
def stepL (m lim : Nat) (rels : List W) (x : LS) : Option LS := ((optTo (relL m lim rels) rels.length (clrL x)).bind (colsL m lim rels)).map nextL
def runLN (m lim : Nat) (rels : List W) : Nat → LS → Option LS
  | 0, _ => none
  | n + 1, x => if x.s.t.length ≤ x.r then some x else
    match stepL m lim rels x with
    | none => none
    | some y => runLN m lim rels n y
def upot (lim : Nat) (x : LS) : Nat := (50 - x.looks) * (lim + 2) + (lim - x.r) + 1
def runL (m lim : Nat) (rels : List W) (x : LS) : Option LS := runLN m lim rels (upot lim x) x
def beginL (m : Nat) : LS := ⟨startS m, 0, false, 0, 0⟩
def subL (m lim : Nat) (rels sub : List W) (i : Nat) (x : LS) : Option LS := fillL m lim rels x (sub.getD i [])
def lookS (m lim : Nat) (rels sub : List W) : Option LS := (optTo (subL m lim rels sub) sub.length (beginL m)).bind (runL m lim rels)
section
variable {g lim : Nat} {rels sub : List W} {x y z : LS}
theorem relL_to (hr : ∀ j, j < rels.length → LOk g (rels.getD j [])) (hs : ∀ j, j < sub.length → LOk g (sub.getD j [])) (h : LGood g lim x) (hx : x.lost = false → x.r < x.s.t.length) {k : Nat} (hk : k ≤ rels.length) (e : optTo (relL (2 * g) lim rels) k x = some y) :
    LTo g lim rels sub x y ∧ (∀ js, js ≤ sub.length → LI g rels sub js x → y.lost = false → ∀ j, j < k → Clo y.s y.r (rels.getD j [])) := by
  refine optTo_inv (p := fun k y => LTo g lim rels sub x y ∧ (∀ js, js ≤ sub.length → LI g rels sub js x → y.lost = false → ∀ j, j < k → Clo y.s y.r (rels.getD j []))) ⟨.refl h hx, fun _ _ _ _ j hj => absurd hj (by omega)⟩ k (fun i y z hi ⟨h1, h2⟩ hz => ?_) y e
  unfold relL at hz
  by_cases hl : y.lost = false ∧ y.s.rp y.r = y.r
  · rw [if_pos hl] at hz
    obtain ⟨a, b⟩ := fillL_to (sub := sub) hr hs (hr i (by omega)) _ (Nat.le_refl _) h1.good (fun h' => ⟨h1.lt h', hl.2⟩) (.inl ⟨i, by omega, rfl⟩) z hz
    refine ⟨h1.trans a, fun js hj hli hlz j hjl => ?_⟩
    by_cases e : j = i
    · subst e; exact b hlz
    · exact a.keep _ (hr j (by omega)) hl.1 hlz (h2 js hj hli hl.1 j (by omega))
  · rw [if_neg hl] at hz
    cases hz
    refine ⟨h1, fun js hj hli hlz j hjl => ?_⟩
    have hrc := (h1.li js hj hli).rc
    have hlt := h1.lt hlz
    have hle := h1.good.good.rest.inv.rle _ hlt
    have hne : y.s.rp y.r ≠ y.r := fun h' => hl ⟨hlz, h'⟩
    exact clo_rp h1.good.good.rest.inv hlt (hrc (y.s.rp y.r) (by omega) (by omega) j (by omega))
theorem colsL_to (hr : ∀ j, j < rels.length → LOk g (rels.getD j [])) (hs : ∀ j, j < sub.length → LOk g (sub.getD j [])) (h : LGood g lim x) (hx : x.lost = false → x.r < x.s.t.length) (e : colsL (2 * g) lim rels x = some y) :
    LTo g lim rels sub x y ∧ (∀ js, js ≤ sub.length → LI g rels sub js x → y.lost = false → ∀ c, c < 2 * g → 0 ≤ y.s.t.at (y.s.rp y.r) c) := by
  unfold colsL at e
  by_cases hl : x.lost = false ∧ x.s.rp x.r = x.r
  · rw [if_pos hl] at e
    obtain ⟨a, b, c⟩ := colL_to (sub := sub) hr hs _ (Nat.le_refl _) h (fun h' => ⟨hx h', hl.2⟩) (fun _ d hd => absurd hd (by omega)) y e
    exact ⟨a, fun js hj hli hly d hd => by rw [(b hly).2]; exact c hly d hd⟩
  · rw [if_neg hl] at e
    cases e
    refine ⟨.refl h hx, fun js hj hli hly d hd => ?_⟩
    have hlt := hx hly
    have hle := h.good.rest.inv.rle _ hlt
    have hne : x.s.rp x.r ≠ x.r := fun h' => hl ⟨hly, h'⟩
    have := hli.comp (x.s.rp x.r) (by omega) (by omega) d hd
    rwa [h.good.rest.inv.rid _ hlt] at this
theorem LGood.clr (h : LGood g lim x) : LGood g lim (clrL x) := ⟨h.good, h.lk, h.rr, h.mi⟩
theorem step_to (hr : ∀ j, j < rels.length → LOk g (rels.getD j [])) (hs : ∀ j, j < sub.length → LOk g (sub.getD j [])) (h : LGood g lim x) (hx : x.r < x.s.t.length) (e : stepL (2 * g) lim rels x = some y) :
    LGood g lim y ∧ (∀ js, js ≤ sub.length → LI g rels sub js x → LI g rels sub js y) ∧ x.looks ≤ y.looks ∧ (y.looks = x.looks → y.r = x.r + 1 ∧ y.removed = x.removed) ∧ upot lim y < upot lim x := by
  unfold stepL at e
  obtain ⟨y1, e1, rfl⟩ := Option.map_eq_some_iff.1 e
  obtain ⟨y0, e0, e2⟩ := Option.bind_eq_some_iff.1 e1
  obtain ⟨a1, a2⟩ := relL_to (sub := sub) hr hs h.clr (fun _ => hx) (Nat.le_refl _) e0
  obtain ⟨b1, b2⟩ := colsL_to (sub := sub) hr hs a1.good a1.lt e2
  have ht := a1.trans b1
  have hli : ∀ js, js ≤ sub.length → LI g rels sub js x → LI g rels sub js (clrL x) := fun js hj hl => ⟨hl.comp, hl.rc, hl.subc, hl.univ⟩
  have hlk : x.looks ≤ y1.looks := ht.looks
  have hg := ht.good
  have hk1 := hg.lk
  have hk2 := hg.rr
  have hk3 := hg.good.n2
  have hk4 := h.good.n2
  by_cases hl : y1.lost = true
  · have e3 : nextL y1 = y1 := if_pos hl
    rw [e3]
    have hne : y1.looks ≠ x.looks := fun h' => by
      have := (ht.same h').2.2.1
      rw [hl] at this
      exact absurd this (by show ¬ true = false; simp)
    refine ⟨hg, fun js hj h' => ht.li js hj (hli js hj h'), hlk, fun h' => absurd h' hne, ?_⟩
    unfold upot
    obtain ⟨d, hd⟩ : ∃ d, 50 - x.looks = (50 - y1.looks) + d + 1 := ⟨y1.looks - x.looks - 1, by omega⟩
    rw [hd, Nat.add_mul, Nat.add_mul]
    omega
  · have hlf : y1.lost = false := by simpa using hl
    have e3 : nextL y1 = { y1 with r := y1.r + 1 } := if_neg hl
    rw [e3]
    have hlt := ht.lt hlf
    refine ⟨⟨hg.good, hg.lk, hlt, hg.mi⟩, fun js hj h' => ?_, hlk, fun h' => ?_, ?_⟩
    · have h1 := hli js hj h'
      have h2 := ht.li js hj h1
      refine ⟨fun z hz hzn c hc => ?_, fun z hz hzn j hjl => ?_, h2.subc, h2.univ⟩
      · rcases Nat.lt_or_ge z y1.r with h3 | h3
        · exact h2.comp z h3 hzn c hc
        · have hz' : z < y1.r + 1 := hz
          obtain rfl : z = y1.r := by omega
          exact b2 js hj (a1.li js hj h1) hlf c hc
      · rcases Nat.lt_or_ge z y1.r with h3 | h3
        · exact h2.rc z h3 hzn j hjl
        · have hz' : z < y1.r + 1 := hz
          obtain rfl : z = y1.r := by omega
          have hl0 : y0.lost = false := by
            cases e : y0.lost with
            | false => rfl
            | true => rw [b1.stay e, e] at hlf; cases hlf
          exact b1.keep _ (hr j hjl) hl0 hlf (a2 js hj h1 hl0 j hjl)
    · have h'' : y1.looks = (clrL x).looks := h'
      obtain ⟨c1, c2, -, -⟩ := ht.same h''
      exact ⟨by show y1.r + 1 = x.r + 1; rw [c1]; rfl, c2⟩
    · unfold upot
      show (50 - y1.looks) * (lim + 2) + (lim - (y1.r + 1)) + 1 < _
      by_cases h' : y1.looks = x.looks
      · have h'' : y1.looks = (clrL x).looks := h'
        have c1 : y1.r = x.r := (ht.same h'').1
        rw [h', c1]
        omega
      · obtain ⟨d, hd⟩ : ∃ d, 50 - x.looks = (50 - y1.looks) + d + 1 := ⟨y1.looks - x.looks - 1, by omega⟩
        rw [hd, Nat.add_mul, Nat.add_mul]
        omega
theorem runLN_fuel (hr : ∀ j, j < rels.length → LOk g (rels.getD j [])) : ∀ (n k : Nat) {x : LS}, LGood g lim x → upot lim x ≤ n → upot lim x ≤ k → runLN (2 * g) lim rels n x = runLN (2 * g) lim rels k x
  | 0, _, x, _, hn, _ => by unfold upot at hn; omega
  | n + 1, 0, x, _, _, hk => by unfold upot at hk; omega
  | n + 1, k + 1, x, h, hn, hk => by
    rw [runLN, runLN]
    by_cases hx : x.s.t.length ≤ x.r
    · rw [if_pos hx, if_pos hx]
    · rw [if_neg hx, if_neg hx]
      cases hy : stepL (2 * g) lim rels x with
      | none => rfl
      | some y =>
        simp only
        obtain ⟨a, -, -, -, b⟩ := step_to (sub := []) hr (fun j hj => absurd hj (by simp)) h (by omega) hy
        exact runLN_fuel hr n k a (by omega) (by omega)
theorem runL_step (hr : ∀ j, j < rels.length → LOk g (rels.getD j [])) (h : LGood g lim x) : runL (2 * g) lim rels x = if x.s.t.length ≤ x.r then some x else
    match stepL (2 * g) lim rels x with
    | none => none
    | some y => runL (2 * g) lim rels y := by
  unfold runL
  obtain ⟨n, hn⟩ : ∃ n, upot lim x = n + 1 := ⟨upot lim x - 1, by unfold upot; omega⟩
  rw [hn, runLN]
  by_cases hx : x.s.t.length ≤ x.r
  · rw [if_pos hx, if_pos hx]
  · rw [if_neg hx, if_neg hx]
    cases hy : stepL (2 * g) lim rels x with
    | none => rfl
    | some y =>
      simp only
      obtain ⟨a, -, -, -, b⟩ := step_to (sub := []) hr (fun j hj => absurd hj (by simp)) h (by omega) hy
      exact runLN_fuel hr _ _ a (by omega) (Nat.le_refl _)
theorem runL_to (hr : ∀ j, j < rels.length → LOk g (rels.getD j [])) (hs : ∀ j, j < sub.length → LOk g (sub.getD j [])) : ∀ (n : Nat) {x : LS}, upot lim x ≤ n → LGood g lim x → ∀ y, runL (2 * g) lim rels x = some y →
    LGood g lim y ∧ (∀ js, js ≤ sub.length → LI g rels sub js x → LI g rels sub js y) ∧ x.looks ≤ y.looks ∧ (y.looks = x.looks → y.removed = x.removed) ∧ y.s.t.length ≤ y.r
  | 0, x, hn, _, _, _ => by unfold upot at hn; omega
  | n + 1, x, hn, h, y, e => by
    rw [runL_step hr h] at e
    by_cases hx : x.s.t.length ≤ x.r
    · rw [if_pos hx] at e
      cases e
      exact ⟨h, fun _ _ h => h, Nat.le_refl _, fun _ => rfl, hx⟩
    · rw [if_neg hx] at e
      cases hz : stepL (2 * g) lim rels x with
      | none => rw [hz] at e; cases e
      | some z =>
        rw [hz] at e
        simp only at e
        obtain ⟨a1, a2, a3, a4, a5⟩ := step_to (sub := sub) hr hs h (by omega) hz
        obtain ⟨b1, b2, b3, b4, b5⟩ := runL_to hr hs n (by omega) a1 y e
        exact ⟨b1, fun js hj h' => b2 js hj (a2 js hj h'), by omega, fun h' => (b4 (by omega)).trans (a4 (by omega)).2, b5⟩
theorem begin_good (hl : 1 ≤ lim) : LGood g lim (beginL (2 * g)) := ⟨start_good hl, Nat.zero_le _, Nat.zero_le _, by
  have hst : (startS (2 * g)).t.length = 1 := by unfold startS; rw [length_add]; rfl
  show (startS (2 * g)).live ≤ (startS (2 * g)).most ∧ (startS (2 * g)).most ≤ (((startS (2 * g)).t.length + 0 : Nat) : Int)
  rw [hst]
  have h1 : (startS (2 * g)).live = 1 := rfl
  have h2 : (startS (2 * g)).most = 1 := rfl
  rw [h1, h2]
  omega⟩
theorem begin_li : LI g rels sub 0 (beginL (2 * g)) := ⟨fun z hz => absurd hz (by show ¬ z < 0; omega), fun z hz => absurd hz (by show ¬ z < 0; omega), fun j hj => absurd hj (by omega), fun {_ _ _ p0} _ h0 _ => ⟨fun _ => p0, start_mp h0, rfl⟩⟩
theorem subL_to (hr : ∀ j, j < rels.length → LOk g (rels.getD j [])) (hs : ∀ j, j < sub.length → LOk g (sub.getD j [])) (hl : 1 ≤ lim) {k : Nat} (hk : k ≤ sub.length) (e : optTo (subL (2 * g) lim rels sub) k (beginL (2 * g)) = some y) :
    LGood g lim y ∧ y.r = 0 ∧ y.lost = false ∧ LI g rels sub k y ∧ (y.looks = 0 → y.removed = 0) := by
  refine optTo_inv (p := fun k y => LGood g lim y ∧ y.r = 0 ∧ y.lost = false ∧ LI g rels sub k y ∧ (y.looks = 0 → y.removed = 0)) ⟨begin_good hl, rfl, rfl, begin_li, fun _ => rfl⟩ k (fun i y z hi ⟨h1, h2, h3, h4, h5⟩ hz => ?_) y e
  have h0 := rp_zero h1.good.rest h1.good.n1
  have hn := h1.good.n1
  obtain ⟨a, b⟩ := fillL_to (sub := sub) hr hs (hs i (by omega)) _ (Nat.le_refl _) h1 (fun _ => by rw [h2]; exact ⟨by omega, h0⟩) (.inr ⟨h2, i, by omega, rfl⟩) z hz
  obtain ⟨c1, c2⟩ := a.zero h2 h3
  have h6 := a.li i (by omega) h4
  refine ⟨a.good, c1, c2, ⟨h6.comp, h6.rc, fun j hj => ?_, h6.univ⟩, fun h' => ?_⟩
  · by_cases e : j = i
    · subst e
      have := b c2
      rwa [c1] at this
    · exact h6.subc j (by omega)
  · have h7 := a.looks
    rw [(a.same (by omega)).2.1]
    exact h5 (by omega)
theorem coset_of_look (hg1 : 1 ≤ g) (hg16 : g ≤ 16) (hlim : lim ≤ 20000) (hl1 : 1 ≤ lim) (hr : ∀ j, j < rels.length → LOk g (rels.getD j [])) (hs : ∀ j, j < sub.length → LOk g (sub.getD j [])) (e : lookS (2 * g) lim rels sub = some y) :
    LGood g lim y ∧ Comp g y.s y.s.t.length ∧ (y.looks = 0 → y.removed = 0) ∧ Coset g rels sub (stdT (tabS y.s) 0) ∧ stdE g (tabS y.s) 0 = (stdT (tabS y.s) 0, 0) ∧ (stdT (tabS y.s) 0).length = (liv y.s).length := by
  unfold lookS at e
  obtain ⟨x, e0, e1⟩ := Option.bind_eq_some_iff.1 e
  obtain ⟨a1, a2, a3, a4, a5⟩ := subL_to hr hs hl1 (Nat.le_refl _) e0
  obtain ⟨b1, b2, b3, b4, b5⟩ := runL_to (sub := sub) hr hs _ (Nat.le_refl _) a1 y e1
  have h := b2 _ (Nat.le_refl _) a4
  have hC : Comp g y.s y.s.t.length := fun z hz hzn c hc => h.comp z (by omega) hzn c hc
  refine ⟨b1, hC, fun h' => ?_, coset_of_state hg1 hg16 hlim hr hs b1.good hC (fun z hz hzn j hj => h.rc z (by omega) hzn j hj) h.subc h.univ⟩
  rw [b4 (by omega)]
  exact a5 (by omega)
end
end Go.Proofs.Ct
