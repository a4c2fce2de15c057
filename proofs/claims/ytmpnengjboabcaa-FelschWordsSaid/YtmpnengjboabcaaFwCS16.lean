/- The reference of Felsch's strategy: rotations, words; As T2's law; the fact of an operation without a slot (a store) may name the value of a slot that it takes; Helpers of felsch.words: the closure of ContainsFunc, a pair of rows, a box that a row is stored into; The reference of Felsch's strategy: the words of a letter. -/
import Derived.Test.YtmpnengjboabcaaFwCS14
import Derived.Test.YtmpnengjboabcaaFwCS15
import Derived.Test.YtmpnengjboabcaaFwCS6
import Derived.Test.YtmpnengjboabcaaFwCS7
namespace Go.Proofs
open Go.RowKit Go.Shelf Go.Proofs.Ct Go.Maps
/-- a list that grows: other blocks stay, its block is its own or new -/
def Grw (w w' : World) (v v' : Value) : Prop := w.heap.size ≤ w'.heap.size ∧ (∀ k, k < w.heap.size → v.ownBlock ≠ some k → w'.heap[k]? = w.heap[k]?) ∧ ∀ r, v'.ownBlock = some r → v.ownBlock = some r ∨ w.heap.size ≤ r
theorem Grw.of_below {w w' : World} (h : Below w.heap.size w w') (v : Value) : Grw w w' v v := ⟨h.size, fun k hk _ => h.block k hk, fun _ hr => .inl hr⟩
theorem Grw.trans {w w1 w2 : World} {v v1 v2 : Value} (h : Grw w w1 v v1) (h' : Grw w1 w2 v1 v2) : Grw w w2 v v2 := by
  refine ⟨Nat.le_trans h.1 h'.1, fun k hk hn => (h'.2.1 k (Nat.lt_of_lt_of_le hk h.1) fun e => ?_).trans (h.2.1 k hk hn), fun r hr => ?_⟩
  · rcases h.2.2 k e with h1 | h1
    · exact hn h1
    · omega
  · rcases h'.2.2 r hr with h1 | h1
    · exact h.2.2 r h1
    · exact .inr (Nat.le_trans h.1 h1)
theorem OutSt2.done2 {t e : TypeId} (he : e ≠ 3) (ht : Try.prog.underlying t = some (.slice e)) (hi : ∃ i, Try.prog.info? e = some i ∧ i.zero = some (.slice none 0 0) ∧ i.size = 1 ∧ i.bytes = 24) {F : Nat → Prop} {w0 wr : World} {vout : Value} {A : Option Addr} {n c : Nat} {rows : List (List Int)} {x : List Int} (h : OutSt2 e F w0 wr vout (.slice A n c) rows x) (hf : Fits x) (hl : rows.length ≤ 1000000) :
    ∃ A' c' w', (Builtin.append_ #[t, t] t #[vout, .slice (some ⟨wr.heap.size, 0, none⟩) 1 1]).run Try.prog (wr.alloc (.cells #[.slice A n c] e)) = .ok (.slice A' (rows.length + 1) c') w' ∧
      OutSt e (fun k => F k ∨ (Value.slice A n c).ownBlock = some k) w0 w' (.slice A' (rows.length + 1) c') (rows ++ [x]) ∧ Grw wr w' vout (.slice A' (rows.length + 1) c') := by
  have hub := h.st.out.block
  have hrb := owns_block h.row
  have hne : ∀ {k : Nat} {C : Array Value} {fr : Nat × Nat}, wr.heap[k]? = some (.cells C 3 fr) → vout.ownBlock ≠ some k := fun {k C fr} hc e' => by
    obtain ⟨-, C', hC'⟩ := hub k e'
    rw [hc] at hC'
    injection hC' with h5
    injection h5 with _ h6 _
    exact he h6.symm
  have hF2 : ∀ k, (F k ∨ (Value.slice A n c).ownBlock = some k) → k < wr.heap.size ∧ vout.ownBlock ≠ some k := fun k hk => by
    rcases hk with hk | hk
    · obtain ⟨h1, h2, C, hC⟩ := h.st.fs k hk
      exact ⟨h2, hne hC⟩
    · obtain ⟨h1, C, hC⟩ := hrb k hk
      exact ⟨(Array.getElem?_eq_some_iff.1 hC).1, hne hC⟩
  obtain ⟨A', c', w', hr, ho', hg, hw⟩ := push_row (ty := t) ht hi wr w0.heap.size (fun k => F k ∨ (Value.slice A n c).ownBlock = some k) vout rows (h.st.out.keep (fun _ _ => rfl) (Ag.refl _ _) (fun k hk => .inl hk)) A n c x ((IntsF.of_own h.row hf).mono fun k hk => .inr hk) hF2 (by omega) h.st.below.size
  refine ⟨A', c', w', hr, ⟨h.st.below.grown hg h.st.below.size (fun k hk => (hub k hk).1), ho', fun k hk => ?_⟩, hg.size, fun k hk hn => hg.block k hk (Ne.symm hn), fun r hr' => ?_⟩
  · have h2 := (hF2 k hk).1
    rcases hk with hk | hk
    · obtain ⟨h1, _, C, hC⟩ := h.st.fs k hk
      exact ⟨h1, Nat.lt_of_lt_of_le h2 hg.size, C, grown_cells hg hC (hne hC)⟩
    · obtain ⟨h1, C, hC⟩ := hrb k hk
      exact ⟨h1, Nat.lt_of_lt_of_le h2 hg.size, C, grown_cells hg hC (hne hC)⟩
  · rcases hw with hw | ⟨r', hr2, hge⟩
    · exact .inl (hw ▸ hr')
    · rw [hr2] at hr'
      exact .inr (Option.some.inj hr' ▸ hge)
theorem r_lo25 {o : Oper} {a : Act} {w : World} {v : Value} (x y : Operand) (A : Option Addr) (n c k : Nat) (ho : o.op = .slice 25 x (some y) none none) (hx : a.eval x = .slice A n c) (hy : a.eval y = .int .i64 (k : Int)) (hk : k ≤ n) (hv : sliced A k n c 1 = v) : (execOp a.eval o).run Try.prog w = .ok (.value v) w := by
  rw [← hv]; exact r_slice_lo25 x y A n c k ho hx hy hk
theorem r_hi25 {o : Oper} {a : Act} {w : World} {v : Value} (x y : Operand) (A : Option Addr) (n c h : Nat) (ho : o.op = .slice 25 x none (some y) none) (hx : a.eval x = .slice A n c) (hy : a.eval y = .int .i64 (h : Int)) (hc : h ≤ c) (hv : sliced A 0 h c 1 = v) : (execOp a.eval o).run Try.prog w = .ok (.value v) w := by
  rw [← hv]
  have hu := under25e
  have hs : (sizeOf (Try.prog.elem 25)).run Try.prog w = .ok 1 w := by kernel_rfl
  unfold execOp
  simp only [ho, hx, hy, Option.map_none, Option.map_some, Sem.run_bind, run_sliceAt_slice w 25 _ _ _ _ hu, run_slice_h w 25 A n c hu .i64 (h : Int) (by omega) (by omega)]
  simp [hs]
theorem rotTo_len (l : List W) (w : W) (x : Int) (k : Nat) : (rotTo l w x k).length ≤ l.length + k := by
  induction k with
  | zero => exact Nat.le_refl _
  | succ k ih =>
    rw [show rotTo l w x (k + 1) = (if w.getD k 0 = x ∧ w.drop k ++ w.take k ∉ rotTo l w x k then rotTo l w x k ++ [w.drop k ++ w.take k] else rotTo l w x k) from rfl]
    split
    · rw [List.length_append]; simp only [List.length_singleton]; omega
    · omega
set_option maxRecDepth 100000 in
set_option maxHeartbeats 4000000 in
theorem rotations192_any (w0 w : World) (F : Nat → Prop) (vout u : Value) (l : List W) (ws : W) (x : Int) (hO : OutSt 25 F w0 w vout l) (hu : IntsF (fun k => k < w.heap.size ∧ vout.ownBlock ≠ some k) w u ws) (_hx1 : -9223372036854775808 ≤ x) (_hx2 : x ≤ 9223372036854775807) (hl : l.length ≤ 100000) (hw : ws.length ≤ 100000) :
    Calls Try.prog 192 #[vout, u, .int .i64 x] w fun e w' => ∃ A c F', e = .returned (.slice A (rotL l ws x).length c) ∧ OutSt 25 F' w0 w' (.slice A (rotL l ws x).length c) (rotL l ws x) ∧ Grw w w' vout (.slice A (rotL l ws x).length c) := by
  have hui := hu.at_
  obtain ⟨Au, cu, rfl, hcu, hcm, -⟩ := hui.open_
  have hFW : Fits ws := hui.2
  obtain ⟨A0, c0, rfl⟩ := Tab.form hO.out.tab
  have HFW := Lib.hid hFW
  have HU := Lib.hid hu
  have HO0 : Hid (∃ F1, OutSt 25 F1 w0 w (.slice A0 l.length c0) (rotTo l ws x 0)) := Lib.hid ⟨F, hO⟩
  have HG0 : Hid (Grw w w (.slice A0 l.length c0) (.slice A0 l.length c0)) := Lib.hid (Grw.of_below (Below.refl _ _) _)
  have hws0 : (0 : Int) ≤ (ws.length : Int) := Int.natCast_nonneg _
  have hws1 : (ws.length : Int) ≤ 100000 := by omega
  have hwc : (ws.length : Int) ≤ cu := by omega
  clear hu hui hFW hO
  unfold rotL
  generalize hvo : Value.slice A0 l.length c0 = vout at *
  go_enter Try.func192, Try.ntmps192
  go_wp2_with fail
  go_loopw [0, 7] (fun vo i wr => ∃ (k : Nat) (A : Option Addr) (c : Nat), i = .int .i64 (k : Int) ∧ k ≤ ws.length ∧ vo = .slice A (rotTo l ws x k).length c ∧ Hid (∃ F1, OutSt 25 F1 w0 wr vo (rotTo l ws x k)) ∧ Hid (Grw w wr vout vo)) (fun _ i _ => ws.length - (intOf i).toNat)
  case atStart => exact ⟨0, A0, c0, rfl, Nat.zero_le _, hvo.symm, HO0, HG0⟩
  case round =>
    obtain ⟨k, AL, cL, rfl, hk, rfl, HOL, HGL⟩ := hrel
    have hk0 : (0 : Int) ≤ (k : Int) := Int.natCast_nonneg _
    by_cases hlt : k < ws.length
    · have hkI : (k : Int) < (ws.length : Int) := by omega
      have hLL := rotTo_len l ws x k
      have HLL : Hid ((rotTo l ws x k).length ≤ 200000) := Lib.hid (by omega)
      have hiw : IntsAt wr (.slice Au ws.length cu) ws := (HU.out.keep (fun q hq => HGL.out.2.1 q hq.1 hq.2)).at_
      have HSTEP : Hid ((ws.getD k 0 = x ∧ ws.drop k ++ ws.take k ∉ rotTo l ws x k → rotTo l ws x (k + 1) = rotTo l ws x k ++ [ws.drop k ++ ws.take k]) ∧ (¬ (ws.getD k 0 = x ∧ ws.drop k ++ ws.take k ∉ rotTo l ws x k) → rotTo l ws x (k + 1) = rotTo l ws x k)) := Lib.hid ⟨fun h => if_pos h, fun h => if_neg h⟩
      obtain ⟨A', c', e', -, -, hcl⟩ := hiw.open_
      obtain ⟨rfl, -, rfl⟩ := Value.slice.inj e'
      obtain ⟨bu, ou, rfl, hcc⟩ := hcl (by omega)
      have hck := hcc k hlt
      obtain ⟨A1, hv1, hi1⟩ := ints_sliced (k := k) (h := ws.length) hiw (by omega) (Nat.le_refl _)
      obtain ⟨A2, hv2, hi2⟩ := ints_sliced (k := 0) (h := k) hiw (by omega) (by omega)
      rw [List.take_length] at hi1
      rw [List.drop_zero, Nat.sub_zero, Nat.sub_zero] at hi2
      rw [Nat.sub_zero, Nat.sub_zero] at hv2
      rw [show ws.length - k = (ws.drop k).length by rw [List.length_drop]] at hi1 hv1
      rw [show k = (ws.take k).length by rw [List.length_take]; omega] at hi2
      rw [show (ws.take (ws.take k).length) = ws.take k by rw [show (ws.take k).length = k by rw [List.length_take]; omega]] at hi2
      replace hv2 : sliced (some ⟨bu, ou, none⟩) 0 k cu 1 = .slice A2 (ws.take k).length cu := by rw [hv2, show (ws.take k).length = k by rw [List.length_take]; omega]
      have HSL : Hid (∀ W, Below wr.heap.size wr W → IntsAt W (.slice A1 (ws.drop k).length (cu - k)) (ws.drop k) ∧ IntsAt W (.slice A2 (ws.take k).length cu) (ws.take k)) := Lib.hid fun W hW => ⟨hi1.below hW, hi2.below hW⟩
      generalize hL : rotTo l ws x k = L at *
      clear hL hLL hiw hcl hcc hi1 hi2 e'
      by_cases hkx : ws.getD k 0 = x
      · rw [hkx] at hck
        have HKX := Lib.hid hkx
        clear hkx
        go_wp2_with fail
        refine (wpIn_wide (n := 3)).1 ?_
        refine wpIn_region_own (by kernel_rfl) 10 rfl (fun i => ([some 23, some 24, some 25, some 26, some 27, some 28, some 29, some 30, some 31, some 8] : List (Option Nat)).getD i none) (lex_of (by kernel_rfl)) wr.heap.size (fun i => ([0, 4] : List Nat).contains i) (fun i j => (([[], [], [], [1, 2], [0, 3], [], [], [5, 6], [4, 7], [8]] : List (List Nat)).getD i []).contains j) (fun W => Below wr.heap.size wr W) (fun j v O W => (([.own [], .eq (.slice (some ⟨bu, ou, none⟩) ws.length cu), .eq (.int .i64 (k : Int)), .eq (.slice A1 (ws.drop k).length (cu - k)), .own (ws.drop k), .eq (.slice (some ⟨bu, ou, none⟩) ws.length cu), .eq (.int .i64 (k : Int)), .eq (.slice A2 (ws.take k).length cu), .own (ws.drop k ++ ws.take k), .own (ws.drop k ++ ws.take k)] : List FP).getD j FP.any).holds wr.heap.size v O W) (by kernel_rfl) (by kernel_rfl) (dm_inj (by kernel_rfl)) (fun j v O W W' _ _ h hs h1 h2 => FP.keep rfl h1 h2 hs h) (dm_lt (n := 54) (by kernel_rfl)) (Nat.le_refl _) (Below.refl _ _).drew ?_ ?_
        · intro O ls q o a w2 hq ho hS hbw hls hP hpre hdj
          have hcases : q = 0 ∨ q = 1 ∨ q = 2 ∨ q = 3 ∨ q = 4 ∨ q = 5 ∨ q = 6 ∨ q = 7 ∨ q = 8 ∨ q = 9 := by
            have : q < 10 := hq
            omega
          rcases hcases with rfl | rfl | rfl | rfl | rfl | rfl | rfl | rfl | rfl | rfl
          · obtain rfl := Option.some.inj ho
            have hal : Below w2.heap.size w2 (w2.alloc (.cells #[] 3)) := (Below.refl _ _).alloc (Nat.le_refl _) _
            exact wpOpIn_of rfl rfl (wpW_val (r_bs25_0 rfl) ⟨_, _, rfl, hS.trans (hal.mono hS.size), (fun h => by simp at h), Step.below hal, own_start hbw⟩)
          · obtain rfl := Option.some.inj ho
            exact wpOpIn_of rfl rfl (wpW_val (r_move (.tmp 1) rfl (hP.out 1 (dm_out (by kernel_rfl)))) ⟨_, _, rfl, hS, (fun h => by simp at h), Step.same, rfl⟩)
          · obtain rfl := Option.some.inj ho
            exact wpOpIn_of rfl rfl (wpW_val (r_move (.tmp 7) rfl (hP.out 7 (dm_out (by kernel_rfl)))) ⟨_, _, rfl, hS, (fun h => by simp at h), Step.same, rfl⟩)
          · obtain rfl := Option.some.inj ho
            exact wpOpIn_of rfl rfl (wpW_val (r_lo25 (.tmp 24) (.tmp 25) (some ⟨bu, ou, none⟩) ws.length cu k rfl (hpre 1 (by decide) rfl).1 (hpre 2 (by decide) rfl).1 (by omega) hv1) ⟨_, _, rfl, hS, (fun h => by simp at h), Step.same, rfl⟩)
          · obtain rfl := Option.some.inj ho
            obtain ⟨A', c', w', hr, hg, hb, hf⟩ := FP.app_ints (ty := 25) Try.underlying25 (hpre 0 (by decide) rfl).1 ((HSL.out _ hS).1) (by simp) (by rw [List.length_drop]; omega) hbw
            rw [List.nil_append] at hr hf
            exact wpOpIn_of rfl rfl (wpW_val (r_app (.tmp 23) (.tmp 26) 25 rfl rfl (hpre 3 (by decide) rfl).1 hr) ⟨_, _, rfl, grown_below rfl hS hg (fun r hr => (hb r hr).2), (fun h => by simp at h), Step.grown hg (fun r hr => ⟨0, by decide, rfl, rfl, (hb r hr).1⟩), hf _ (fun q h1 h2 => Mx.of (j := 0) (by decide) rfl (fun _ => rfl) h1 (Nat.lt_of_lt_of_le h2 hg.size)) (fun q h1 h2 => Mx.fresh h1 h2)⟩)
          · obtain rfl := Option.some.inj ho
            exact wpOpIn_of rfl rfl (wpW_val (r_move (.tmp 1) rfl (hP.out 1 (dm_out (by kernel_rfl)))) ⟨_, _, rfl, hS, (fun h => by simp at h), Step.same, rfl⟩)
          · obtain rfl := Option.some.inj ho
            exact wpOpIn_of rfl rfl (wpW_val (r_move (.tmp 7) rfl (hP.out 7 (dm_out (by kernel_rfl)))) ⟨_, _, rfl, hS, (fun h => by simp at h), Step.same, rfl⟩)
          · obtain rfl := Option.some.inj ho
            exact wpOpIn_of rfl rfl (wpW_val (r_hi25 (.tmp 28) (.tmp 29) (some ⟨bu, ou, none⟩) ws.length cu k rfl (hpre 5 (by decide) rfl).1 (hpre 6 (by decide) rfl).1 (by omega) hv2) ⟨_, _, rfl, hS, (fun h => by simp at h), Step.same, rfl⟩)
          · obtain rfl := Option.some.inj ho
            obtain ⟨A', c', w', hr, hg, hb, hf⟩ := FP.app_ints (ty := 25) Try.underlying25 (hpre 4 (by decide) rfl).1 ((HSL.out _ hS).2) (by rw [List.length_drop]; omega) (by rw [List.length_take]; omega) hbw
            exact wpOpIn_of rfl rfl (wpW_val (r_app (.tmp 27) (.tmp 30) 25 rfl rfl (hpre 7 (by decide) rfl).1 hr) ⟨_, _, rfl, grown_below rfl hS hg (fun r hr => (hb r hr).2), (fun h => by simp at h), Step.grown hg (fun r hr => ⟨4, by decide, rfl, rfl, (hb r hr).1⟩), hf _ (fun q h1 h2 => Mx.of (j := 4) (by decide) rfl (by decide) h1 (Nat.lt_of_lt_of_le h2 hg.size)) (fun q h1 h2 => Mx.fresh h1 h2)⟩)
          · obtain rfl := Option.some.inj ho
            have k := hpre 8 (by decide) rfl
            exact wpOpIn_of rfl rfl (wpW_val (r_assign (.tmp 31) rfl rfl) ⟨_, _, rfl, hS, (fun h => by simp at h), Step.same, FP.mono (fun q hq => Mx.of (j := 8) (by decide) rfl (by decide) hq (k.2 q hq).2) k.1⟩)
        · intro O ls a w2 hall hS hbw hP hsl
          obtain ⟨vs, hvs, hfr⟩ := hP.frame 54 rfl
          obtain ⟨A8, c8, e8', o8, -⟩ := (hsl 9 (by decide) (.inl rfl)).1
          have e8 : a.tmps.getD 8 undef = .slice A8 (ws.drop k ++ ws.take k).length c8 := e8'
          rw [← hvs] at e8
          have HS5 := Lib.hid hS
          clear hsl hP hall hS hvs hbw e8' HSL hv1 hv2
          subst hfr
          dsimp only
          simp only [List.range, List.range.loop, List.map_cons, List.map_nil, List.any_cons, List.any_nil, Nat.reduceBEq, Option.some_beq_some, Bool.or_false, Bool.false_or, Bool.false_eq_true, if_true, if_false, List.getD_cons_zero, List.getD_cons_succ, e8]
          have HO5 := Lib.hid o8
          clear o8 e8
          have hrl : (ws.drop k ++ ws.take k).length = ws.length := by rw [List.length_append, List.length_drop, List.length_take]; omega
          have HFR : Hid (Fits (ws.drop k ++ ws.take k)) := Lib.hid fun z hz => HFW.out z (by
            rcases List.mem_append.1 hz with h | h
            · exact List.mem_of_mem_drop h
            · exact List.mem_of_mem_take h)
          generalize hR : ws.drop k ++ ws.take k = R at *
          have HRE := Lib.hid hR
          clear hR
          rw [hrl] at HO5
          simp only [hrl]
          have HRL := Lib.hid hrl
          clear hrl
          have hLI2 : (L.length : Int) ≤ 200000 := by have := HLL.out; omega
          go_wp2_with fail
          go_loopw [9, 10] (fun hs i wi => ∃ p : Nat, i = .int .i64 (p : Int) ∧ p ≤ L.length ∧ (∃ bb : Bool, hs = .bool bb ∧ Hid (bb = decide (R ∈ L.take p))) ∧ ∃ q, wi = w2.drewN q) (fun _ i _ => L.length - (intOf i).toNat)
          case atStart => exact ⟨0, rfl, Nat.zero_le _, ⟨false, rfl, Lib.hid (by simp)⟩, 0, rfl⟩
          case round =>
            obtain ⟨p, rfl, hp, ⟨bb, rfl, HBB⟩, q, rfl⟩ := hrel
            have hp0 : (0 : Int) ≤ (p : Int) := Int.natCast_nonneg _
            by_cases hpl : p < L.length
            · have hpI : (p : Int) < (L.length : Int) := by omega
              have hTS : Hid (R ∈ L.take (p + 1) ↔ R ∈ L.take p ∨ L.getD p [] = R) := Lib.hid (by
                rw [List.take_add_one, List.getElem?_eq_getElem hpl, List.getD_eq_getElem?_getD, List.getElem?_eq_getElem hpl]
                simp only [Option.toList_some, List.mem_append, List.mem_singleton, Option.getD_some]; exact or_congr Iff.rfl eq_comm)
              cases bb with
              | true =>
                have HB2 : Hid (true = decide (R ∈ L.take (p + 1))) := Lib.hid (by
                  have h1 : R ∈ L.take p := by simpa using HBB.out
                  exact (decide_eq_true (hTS.out.2 (.inl h1))).symm)
                clear hTS
                go_wp2_with fail
                go_roundw
                case rel => exact ⟨p + 1, by go_num, by omega, ⟨true, rfl, HB2⟩, (by first | exact ⟨_, rfl⟩ | exact ex_drewN)⟩
                case measure => simp [intOf]; omega
              | false =>
                have hT5 : Tab (w2.drewN q) (.slice AL L.length cL) L := by
                  obtain ⟨F1, h1⟩ := HOL.out
                  exact ((h1.below' HS5.out).below' (below_drewN (Below.refl _ _) q)).out.tab
                obtain ⟨bl, ol, rfl, hcl⟩ := hT5.cells (by omega)
                obtain ⟨up, hup, hip⟩ := hcl p hpl
                obtain ⟨Ap, cp, rfl, -, -, -⟩ := hip.open_
                have hiR : IntsAt (w2.drewN q) (.slice A8 ws.length c8) R := (OwnI.ints (by have h := HO5.out; rw [← HRL.out] at h; exact h) HFR.out).below (below_drewN (Below.refl _ _) q) |> fun h => by rwa [HRL.out] at h
                have HSM := Lib.hid (same213_any (w2.drewN q) _ _ _ _ hip hiR)
                have HB2 : Hid (decide (L.getD p [] = R) = decide (R ∈ L.take (p + 1))) := Lib.hid (by
                  have h1 : R ∉ L.take p := by simpa using HBB.out
                  by_cases h : L.getD p [] = R
                  · rw [decide_eq_true h, decide_eq_true (hTS.out.2 (.inr h))]
                  · rw [decide_eq_false h, decide_eq_false (fun h' => (hTS.out.1 h').elim h1 h)])
                clear hTS hT5 hcl hip hiR
                generalize decide (L.getD p [] = R) = bn at *
                generalize (L.getD p []).length = lp at *
                go_wp2_with (go_at_call 213; (with_reducible refine HSM.out.mono ?_); rintro E wz ⟨rfl, q3, rfl⟩)
                go_roundw
                case rel => exact ⟨p + 1, by go_num, by omega, ⟨bn, rfl, HB2⟩, (by first | exact ⟨_, rfl⟩ | exact ex_drewN)⟩
                case measure => simp [intOf]; omega
            · obtain rfl : p = L.length := by omega
              clear hpl
              rw [List.take_length] at HBB
              have hSTQ : ∃ F1, OutSt2 25 F1 w0 (w2.drewN q) (.slice AL L.length cL) (.slice A8 ws.length c8) L R := by
                obtain ⟨F1, h1⟩ := HOL.out
                exact ⟨F1, (h1.with_row HS5.out HO5.out).below' (below_drewN (Below.refl _ _) q)⟩
              have hGQ : Grw w (w2.drewN q) vout (.slice AL L.length cL) := HGL.out.trans ((Grw.of_below HS5.out _).trans (Grw.of_below (below_drewN (Below.refl _ _) q) _))
              have HSTQ := Lib.hid hSTQ
              have HGQ := Lib.hid hGQ
              clear hSTQ hGQ
              cases bb with
              | true =>
                have HNX : Hid (rotTo l ws x (k + 1) = L) := Lib.hid (HSTEP.out.2 (fun h => by
                  have h1 : R ∈ L := by simpa using HBB.out
                  exact h.2 h1))
                go_wp2_with fail
                go_roundw
                case rel => exact ⟨k + 1, AL, cL, by go_num, by omega, by rw [HNX.out], Lib.hid (by rw [HNX.out]; obtain ⟨F1, h⟩ := HSTQ.out; exact ⟨F1, h.st⟩), HGQ⟩
                case measure => simp [intOf]; omega
              | false =>
                have HNX : Hid (rotTo l ws x (k + 1) = L ++ [R]) := Lib.hid (by
                  have h1 : R ∉ L := by simpa using HBB.out
                  exact HSTEP.out.1 ⟨HKX.out, h1⟩)
                have hDN : ∃ A' c' w', (Builtin.append_ #[31, 31] 31 #[.slice AL L.length cL, .slice (some ⟨(w2.drewN q).heap.size, 0, none⟩) 1 1]).run Try.prog ((w2.drewN q).alloc (.cells #[.slice A8 ws.length c8] 25)) = .ok (.slice A' (L.length + 1) c') w' ∧ (∃ F1, OutSt 25 F1 w0 w' (.slice A' (L.length + 1) c') (L ++ [R])) ∧ Grw w w' vout (.slice A' (L.length + 1) c') := by
                  obtain ⟨F1, h⟩ := HSTQ.out
                  obtain ⟨A', c', w', hr, h1, h2⟩ := h.done2 (t := 31) (by decide) Try.underlying31 info25p HFR.out (by have := HLL.out; omega)
                  exact ⟨A', c', w', hr, ⟨_, h1⟩, HGQ.out.trans h2⟩
                obtain ⟨A', c', w', hr, h1, h2⟩ := hDN
                have HR := Lib.hid hr
                have H1 := Lib.hid h1
                have H2 := Lib.hid h2
                have hLI : (L.length : Int) ≤ 1000000 := by have := HLL.out; omega
                clear hr h1 h2
                go_wp2_with ((with_reducible refine wpList_sel 52 ?_); refine wpList_val rfl (r_app (.tmp 49) (.tmp 51) 31 rfl rfl rfl HR.out) ?_)
                go_roundw
                case rel => exact ⟨k + 1, A', c', by go_num, by omega, by rw [HNX.out, List.length_append]; rfl, Lib.hid (by rw [HNX.out]; exact H1.out), H2⟩
                case measure => simp [intOf]; omega
      · have HNX : Hid (rotTo l ws x (k + 1) = L) := Lib.hid (HSTEP.out.2 (fun h => hkx h.1))
        generalize ws.getD k 0 = z at *
        have d1 : (z == x) = false := by rw [beq_eq_false_iff_ne]; exact hkx
        clear hv1 hv2
        go_wp2_with fail
        go_roundw
        case rel => exact ⟨k + 1, AL, cL, by go_num, by omega, by rw [HNX.out], Lib.hid (by rw [HNX.out]; exact HOL.out), HGL⟩
        case measure => simp [intOf]; omega
    · obtain rfl : k = ws.length := by omega
      have HOE : Hid (∃ F1, OutSt 25 F1 w0 wr (.slice AL (rotTo l ws x ws.length).length cL) (rotTo l ws x ws.length)) := HOL
      clear hlt hk HOL
      have HLE : Hid (∃ L, L = rotTo l ws x ws.length) := Lib.hid ⟨_, rfl⟩
      obtain ⟨L, hL⟩ := HLE.out
      have HL := Lib.hid hL
      rw [← hL] at HOE HGL ⊢
      clear hL HLE
      go_wp2_with fail
      go_ret
      obtain ⟨F1, h⟩ := HOE.out
      rw [← HL.out]
      exact ⟨AL, cL, F1, rfl, h, HGL.out⟩
end Go.Proofs
namespace Go.Proofs
open Go.RowKit Go.Shelf Go.Proofs.Ct Go.Maps
section
variable {F : Fence} {n : Nat} {P : Program} {ops : Array Oper} {Q : Exit → Act → World → Prop}
theorem wpIn_region_tie {id : Nat} {a0 : Act} {w : World} (hm : P.follows .mixedOrders = true) (N : Nat) (hN : ops.size = N) (dm : Nat → Option Tmp) (hlex : ∀ (i : Nat) (o : Oper), ops[i]? = some o → ∀ e ∈ o.after.toList, Region.binds .any e = true → e.on < i)
    (base : Nat) (wr : Nat → Bool) (us : Nat → Nat → Bool) (S : World → Prop) (Φ : Nat → Value → (Nat → Prop) → World → Prop)
    (tk : Nat → Nat) (htk : ∀ j, j < N → tk j = j ∨ (dm j = none ∧ tk j < N ∧ us j (tk j) = true)) (hus : usB ops N us = true) (huq : uqB N wr us = true)
    (hdm : ∀ i j t, i < N → j < N → dm i = some t → dm j = some t → i = j)
    (hst : ∀ (j : Nat) (v : Value) (O : Nat → Prop) (W W' : World), j < N → (∀ k, O k → k < W.heap.size) → (∀ k, O k → W'.heap[k]? = W.heap[k]?) → W.heap.size ≤ W'.heap.size → S W → S W' → Φ j v O W → Φ j v O W')
    (hsz : ∀ i t, i < N → dm i = some t → t < a0.tmps.size) (hbase : base ≤ w.heap.size) (h0 : S w.drew)
    (hop : ∀ (O : Nat → Nat → Prop) (ls : Nat → Bool) (i : Nat) (o : Oper) (a : Act) (w : World), i < N → ops[i]? = some o → S w → base ≤ w.heap.size → ls i = false → Part a0 dm N ls a →
      (∀ j, j < N → us i j = true → Φ j (slotv a (dm (tk j))) (O j) w ∧ ∀ k, O j k → base ≤ k ∧ k < w.heap.size) →
      (∀ j j' k, j < N → j' < N → us i j = true → us i j' = true → j ≠ j' → wr j = true → O j k → ¬ O j' k) →
      wpOpIn F n P ops Q i (fun a' w' => ∃ v O', a' = a.put (dm i) v ∧ S w' ∧ (dm i = none → v = undef) ∧ Step N wr us O i O' w w' ∧ Φ i (if dm i = none then slotv a (dm (tk i)) else v) O' w') a w)
    (hend : ∀ (O : Nat → Nat → Prop) (ls : Nat → Bool) (a : Act) (w : World), (∀ i, i < N → ls i = true) → S w → base ≤ w.heap.size → Part a0 dm N ls a → (∀ j, j < N → (wr j = false ∨ ∀ i, i < N → us i j = false) → Φ j (slotv a (dm (tk j))) (O j) w ∧ ∀ k, O j k → base ≤ k ∧ k < w.heap.size) → Q .normal a w) :
    (Code.region id ops true).wpIn F n P Q a0 w := by
  subst hN
  have hus' := us_of hus
  have huq' := uq_of huq
  refine wpIn_region_any hm ?_
  let lv : (Nat → Bool) → Nat → Prop := fun ls j => ls j = true ∧ ∀ i, i < ops.size → us i j = true → wr j = true → ls i = false
  refine wpAnyIn_inv (fun listed a w => Closed ops listed ∧ S w ∧ base ≤ w.heap.size ∧ Part a0 dm ops.size (fun j => listed.getD j false) a ∧ ∃ O : Nat → Nat → Prop,
    (∀ j k, j < ops.size → listed.getD j false = true → O j k → base ≤ k ∧ k < w.heap.size) ∧
    (∀ j j' k, j < ops.size → j' < ops.size → lv (fun j => listed.getD j false) j → lv (fun j => listed.getD j false) j' → j ≠ j' → wr j = true → O j k → ¬ O j' k) ∧
    (∀ j, j < ops.size → lv (fun j => listed.getD j false) j → Φ j (slotv a (dm (tk j))) (O j) w)) ?_ ?_ ops.size _ a0 _ (by simp) ?_ ⟨fun i o ho h => ?_, h0, hbase, ⟨rfl, rfl, fun _ _ => rfl⟩, fun _ _ => False, fun j k _ _ h => h.elim, fun j j' k _ _ _ _ _ _ h => h.elim, fun j hj h => ?_⟩
  · rintro listed a w i hls ⟨hcl, hS, hbw, hP, O, hOb, hOd, hsl⟩ hi
    obtain ⟨h1, h2, o, ho, hpre⟩ := ready_mem hi
    rw [getD_true_false (by omega)] at h2
    have hsetD : ∀ j, (listed.setIfInBounds i true).getD j false = if i = j then true else listed.getD j false := fun j => getD_set_listed (by omega)
    have hcl' : Closed ops (listed.setIfInBounds i true) := fun j oj hoj hl e he hb => by
      rw [hsetD] at hl ⊢
      by_cases eij : i = j
      · subst eij
        rw [ho] at hoj; cases hoj
        have := hpre e he hb
        split
        · rfl
        · exact this
      · rw [if_neg eij] at hl
        have := hcl j oj hoj hl e he hb
        split
        · rfl
        · exact this
    -- what i takes is live
    have hlive : ∀ j, j < ops.size → us i j = true → lv (fun j => listed.getD j false) j := fun j hj hu => by
      obtain ⟨e, he, rfl, hb⟩ := hus' i j h1 hj hu o ho
      refine ⟨hpre e he hb, fun i' hi' hu' hw => ?_⟩
      have := huq' i i' e.on h1 hi' hj hw hu hu'
      subst this
      exact h2
    have hwp := hop O _ i o a w h1 ho hS hbw h2 hP (fun j hj hu => ⟨hsl j hj (hlive j hj hu), fun k hk => hOb j k hj (hlive j hj hu).1 hk⟩) (fun j j' k hj hj' hu hu' hne hw => hOd j j' k hj hj' (hlive j hj hu) (hlive j' hj' hu') hne hw)
    refine wpOpIn_mono (fun a' w' h => ?_) hwp
    obtain ⟨v, O', rfl, hS', hvn, hstep, hv⟩ := h
    have hP' := hP.put h1 v
    rw [show (fun j => if i = j then true else listed.getD j false) = (fun j => (listed.setIfInBounds i true).getD j false) from (funext hsetD).symm] at hP'
    -- what is live behind the step was live, and i has not taken it
    have hback : ∀ j, j < ops.size → i ≠ j → lv (fun j => (listed.setIfInBounds i true).getD j false) j → lv (fun j => listed.getD j false) j ∧ (us i j = true → wr j = false) := fun j hj hne hl => by
      obtain ⟨l1, l2⟩ := hl
      have l1' : (listed.setIfInBounds i true).getD j false = true := l1
      rw [hsetD, if_neg hne] at l1'
      refine ⟨⟨l1', fun i' hi' hu hw => ?_⟩, fun hu => ?_⟩
      · have h3 : (listed.setIfInBounds i true).getD i' false = false := l2 i' hi' hu hw
        rw [hsetD] at h3
        split at h3
        · cases h3
        · exact h3
      · rcases hw : wr j with _ | _
        · rfl
        · have h3 : (listed.setIfInBounds i true).getD i false = false := l2 i h1 hu hw
          rw [hsetD, if_pos rfl] at h3
          cases h3
    refine ⟨hcl', hS', Nat.le_trans hbw hstep.size, hP', fun j => if i = j then O' else O j, fun j k hj hl hk => ?_, fun j j' k hj hj' hl hl' hne hw hk hk' => ?_, fun j hj hl => ?_⟩
    · replace hk : (if i = j then O' else O j) k := hk
      by_cases e : i = j
      · rw [if_pos e] at hk
        obtain ⟨h3, h4⟩ := hstep.foot k hk
        refine ⟨?_, h3⟩
        rcases h4 with h4 | ⟨j0, h5, h6, h7, -⟩
        · omega
        · exact (hOb j0 k h5 (hlive j0 h5 h6).1 h7).1
      · rw [if_neg e] at hk
        rw [hsetD, if_neg e] at hl
        have := hOb j k hj hl hk
        exact ⟨this.1, Nat.lt_of_lt_of_le this.2 hstep.size⟩
    · replace hk : (if i = j then O' else O j) k := hk
      replace hk' : (if i = j' then O' else O j') k := hk'
      by_cases e : i = j
      · subst e
        rw [if_pos rfl] at hk
        rw [if_neg hne] at hk'
        obtain ⟨b1, b2⟩ := hback j' hj' hne hl'
        obtain ⟨h3, h4⟩ := hstep.foot k hk
        rcases h4 with h4 | ⟨j0, h5, h6, h7, h8⟩
        · have := (hOb j' k hj' b1.1 hk').2
          omega
        · have hw0 := h8 hw
          by_cases e0 : j0 = j'
          · subst e0
            rw [b2 h6] at hw0; cases hw0
          · exact hOd j0 j' k h5 hj' (hlive j0 h5 h6) b1 e0 hw0 h7 hk'
      · rw [if_neg e] at hk
        obtain ⟨b1, b2⟩ := hback j hj e hl
        by_cases e' : i = j'
        · subst e'
          rw [if_pos rfl] at hk'
          obtain ⟨h3, h4⟩ := hstep.foot k hk'
          rcases h4 with h4 | ⟨j0, h5, h6, h7, -⟩
          · have := (hOb j k hj b1.1 hk).2
            omega
          · by_cases e0 : j = j0
            · subst e0
              rw [b2 h6] at hw; cases hw
            · exact hOd j j0 k hj h5 b1 (hlive j0 h5 h6) e0 hw hk h7
        · rw [if_neg e'] at hk'
          exact hOd j j' k hj hj' b1 (hback j' hj' e' hl').1 hne hw hk hk'
    · show Φ j (slotv (a.put (dm i) v) (dm (tk j))) (if i = j then O' else O j) w'
      by_cases e : i = j
      · subst e
        rw [if_pos rfl]
        have : slotv (a.put (dm i) v) (dm (tk i)) = if dm i = none then slotv a (dm (tk i)) else v := by
          cases hdi : dm i with
          | none => rw [if_pos rfl]; rfl
          | some t =>
            rw [if_neg (by simp)]
            rcases htk i h1 with e2 | ⟨e2, -, -⟩
            · rw [e2, hdi]; exact put_getD_same _ _ _ (by rw [hP.size]; exact hsz i t h1 hdi)
            · rw [hdi] at e2; cases e2
        rw [this]
        exact hv
      · rw [if_neg e]
        obtain ⟨b1, b2⟩ := hback j hj e hl
        have htj : tk j < ops.size ∧ i ≠ tk j := by
          rcases htk j hj with e2 | ⟨-, e2, e3⟩
          · rw [e2]; exact ⟨hj, e⟩
          · refine ⟨e2, fun e4 => ?_⟩
            obtain ⟨ee, he1, he2, he3⟩ := hus' j (tk j) hj e2 e3 ops[j] (Array.getElem?_eq_getElem hj)
            have h3 := hcl j ops[j] (Array.getElem?_eq_getElem hj) b1.1 ee he1 he3
            rw [he2, ← e4, h2] at h3
            cases h3
        have hv' : slotv (a.put (dm i) v) (dm (tk j)) = slotv a (dm (tk j)) := by
          cases hdj : dm (tk j) with
          | none => rfl
          | some t =>
            cases hdi : dm i with
            | none => rfl
            | some t' => exact put_getD_ne _ _ _ _ (fun e' => htj.2 (hdm i (tk j) t h1 htj.1 (by rw [hdi, e']) hdj))
        rw [hv']
        refine hst j _ _ w w' hj (fun k hk => (hOb j k hj b1.1 hk).2) (fun k hk => hstep.keep k (hOb j k hj b1.1 hk).2 fun j0 h5 h6 h7 h8 => ?_) hstep.size hS hS' (hsl j hj b1)
        by_cases e0 : j0 = j
        · subst e0
          rw [b2 h6] at h7; cases h7
        · exact hOd j0 j k h5 hj (hlive j0 h5 h6) b1 e0 h7 h8 hk
  · rintro listed a w hls ⟨hcl, hS, hbw, hP, O, hOb, hOd, hsl⟩ hr
    have hready : ∀ i, i < ops.size → listed.getD i false = true := by
      intro i
      induction i using Nat.strongRecOn with
      | _ i ih =>
        intro hi
        rcases hl : listed.getD i false with _ | _
        · have hmem : i ∈ Region.ready .any ops listed := by
            simp only [Region.ready, List.mem_filter, List.mem_range, Bool.and_eq_true, Bool.not_eq_true']
            refine ⟨hi, by rw [getD_true_false (by omega)]; exact hl, ?_⟩
            rw [Array.getElem?_eq_getElem hi]
            simp only [Option.map_some, Option.getD_some]
            rw [Array.all_eq_true_iff_forall_mem]
            intro e he
            by_cases hb : Region.binds .any e = true
            · have hlt := hlex i _ (Array.getElem?_eq_getElem hi) e (by simpa using he) hb
              simp [ih e.on hlt (by omega)]
            · simp [hb]
          rw [hr] at hmem; cases hmem
        · rfl
    refine hend O _ a w hready hS hbw hP (fun j hj hd => ⟨hsl j hj ⟨hready j hj, fun i hi hu hw => ?_⟩, fun k hk => hOb j k hj (hready j hj) hk⟩)
    rcases hd with hd | hd
    · rw [hd] at hw; cases hw
    · rw [hd i hi] at hu; cases hu
  · simp
  · have : (Array.replicate ops.size false).getD i false = false := by
      simp only [Array.getD_eq_getD_getElem?, Array.getElem?_replicate]; split <;> rfl
    rw [this] at h; cases h
  · have h1 := h.1
    have : (Array.replicate ops.size false).getD j false = false := by
      simp only [Array.getD_eq_getD_getElem?, Array.getElem?_replicate]; split <;> rfl
    have h2 : (Array.replicate ops.size false).getD j false = true := h1
    rw [this] at h2; cases h2
end
end Go.Proofs
namespace Go.Proofs
open Go.RowKit Go.Shelf Go.Proofs.Ct Go.Maps
set_option maxRecDepth 100000 in
theorem eq190_any (w : World) (u v : Value) (q : Nat) (x R : List Int) (hu : IntsAt w u x) (hv : IntsAt w v R) (hq : w.cell? ⟨q, 0, none⟩ = some v) :
    Calls Try.prog 190 #[u, .pointer (some ⟨q, 0, none⟩)] w fun e w' => e = .returned (.bool (decide (x = R))) ∧ Below w.heap.size w w' := by
  have HC := Lib.hid (equal143_any w u v x R hu hv)
  obtain ⟨Au, cu, rfl, -, -, -⟩ := hu.open_
  obtain ⟨Av, cv, rfl, -, -, -⟩ := hv.open_
  clear hu hv
  generalize decide (x = R) = r at *
  go_enter Try.func190, Try.ntmps190
  go_wp2_with (go_at_call 191; (with_reducible refine HC.out.mono ?_); rintro e w1 ⟨rfl, p, rfl⟩)
  go_ret
  exact ⟨rfl, below_drewN (Below.refl _ _) _⟩
theorem call124 (args : Array Value) (w : World) : (callFunc 124 args).run Try.prog w = .ok (.enter 124 args) w := enters_of Try.func124 (by kernel_rfl) rfl args w
theorem call190 (args : Array Value) (w : World) : (callFunc 190 args).run Try.prog w = .ok (.enter 190 args) w := enters_of Try.func190 (by kernel_rfl) rfl args w
theorem bs31_2 (A B : Option Addr) (n m c k : Nat) (w : World) : (Instr.buildSlice 31 2 #[(0, .slice A n c), (1, .slice B m k)]).run Try.prog w = .ok (.slice (some ⟨w.heap.size, 0, none⟩) 2 2) (w.alloc (.cells #[.slice A n c, .slice B m k] 25)) := by kernel_rfl
theorem alloc25 (w : World) : (Instr.alloc 25 true (.tuple #[])).run Try.prog w = .ok (.pointer (some ⟨w.heap.size, 0, none⟩)) (w.alloc (.cells #[.slice none 0 0] 25)) := by kernel_rfl
section
variable {o : Oper} {a : Act} {w : World}
theorem r_bs31_2 (x y : Operand) (A B : Option Addr) (n m c k : Nat) (ho : o.op = .buildSlice 31 2 #[(0, x), (1, y)]) (hx : a.eval x = .slice A n c) (hy : a.eval y = .slice B m k) : (execOp a.eval o).run Try.prog w = .ok (.value (.slice (some ⟨w.heap.size, 0, none⟩) 2 2)) (w.alloc (.cells #[.slice A n c, .slice B m k] 25)) := by
  have hb := bs31_2 A B n m c k w
  unfold execOp
  simp only [ho, List.map_toArray, List.map_cons, List.map_nil, hx, hy, Sem.run_bind, hb, Result.andThen_ok]
  rfl
theorem r_alloc25 (ho : o.op = .alloc 25) : (execOp a.eval o).run Try.prog w = .ok (.value (.pointer (some ⟨w.heap.size, 0, none⟩))) (w.alloc (.cells #[.slice none 0 0] 25)) := by
  have hb := alloc25 w
  unfold execOp
  simp only [ho, Sem.run_bind, hb, Result.andThen_ok]
  rfl
theorem st25 (ad : Addr) (u : Value) (A : Option Addr) (m c : Nat) (hc : w.cell? ad = some u) (hf : w.frozen? ad = false) : (Instr.storeAt 25 (.pointer (some ad)) (.slice A m c)).run Try.prog w = .ok () (w.setCell ad (.slice A m c)) := by
  simp [Instr.storeAt, Instr.sureAddr, go_sem, hc, hf]
theorem r_store25 (x y : Operand) (q : Nat) (u : Value) (A : Option Addr) (m c : Nat) (ho : o.op = .store 25 x y) (hx : a.eval x = .pointer (some ⟨q, 0, none⟩)) (hy : a.eval y = .slice A m c) (hg : w.heap[q]? = some (.cells #[u] 25 (0, 0))) : (execOp a.eval o).run Try.prog w = .ok .skip (w.setCell ⟨q, 0, none⟩ (.slice A m c)) := by
  have hc : w.cell? ⟨q, 0, none⟩ = some u := by rw [cell_of_row _ _ _ _ _ _ hg]; rfl
  have hf : w.frozen? ⟨q, 0, none⟩ = false := by simp [World.frozen?, hg]
  exact r_store1 25 x y ⟨q, 0, none⟩ u _ ho hx hy rfl hc hf (st25 _ u A m c hc hf)
end
/-- two rows that were there -/
theorem tab_two25 {w : World} {X Y : List Int} {A B : Option Addr} {c d : Nat} {F : Nat → Prop} (hx : IntsF F w (.slice A X.length c) X) (hy : IntsF F w (.slice B Y.length d) Y) (hF : ∀ k, F k → k < w.heap.size) :
    TabS (fun k => F k ∨ k = w.heap.size) (w.alloc (.cells #[.slice A X.length c, .slice B Y.length d] 25)) (.slice (some ⟨w.heap.size, 0, none⟩) 2 2) [X, Y] := by
  have hal : Below w.heap.size w (w.alloc (.cells #[.slice A X.length c, .slice B Y.length d] 25)) := (Below.refl _ _).alloc (Nat.le_refl _) _
  refine ⟨[.slice A X.length c, .slice B Y.length d], fun w' ha => ?_, rfl, fun k hk => ?_⟩
  · have h1 := (ha w.heap.size (.inr rfl)).trans (heap_alloc_new w _)
    refine ⟨_, 2, 2, rfl, rfl, Nat.le_refl _, by simp [maxLen], fun _ => ⟨w.heap.size, 0, rfl, fun m u hu => ?_⟩⟩
    rw [cell_of_row _ _ _ _ _ _ h1, Nat.zero_add]
    simpa using hu
  · have : k = 0 ∨ k = 1 := by simp at hk; omega
    rcases this with rfl | rfl
    · exact ⟨_, rfl, (hx.keep fun q hq => hal.block q (hF q hq)).mono fun q hq => .inl hq⟩
    · exact ⟨_, rfl, (hy.keep fun q hq => hal.block q (hF q hq)).mono fun q hq => .inl hq⟩
/-- the box that a row was stored into -/
def BoxS (base : Nat) (R : List Int) (v : Value) (O : Nat → Prop) (W : World) : Prop := ∃ q A c, v = .pointer (some ⟨q, 0, none⟩) ∧ W.heap[q]? = some (.cells #[.slice A R.length c] 25 (0, 0)) ∧ O q ∧ OwnI base W (.slice A R.length c) R ∧ ∀ r, (Value.slice A R.length c).ownBlock = some r → O r
theorem BoxS.keep {base : Nat} {R : List Int} {v : Value} {O : Nat → Prop} {W W' : World} (h : ∀ k, O k → W'.heap[k]? = W.heap[k]?) (hb : BoxS base R v O W) : BoxS base R v O W' := by
  obtain ⟨q, A, c, h1, h2, h3, h4, h5⟩ := hb
  exact ⟨q, A, c, h1, (h q h3).trans h2, h3, owns_keep h4 fun r hr => h r (h5 r hr), h5⟩
theorem keep_tie {t j : Nat} {p : FP} {base : Nat} {R : List Int} {v : Value} {O : Nat → Prop} {W0 w w' : World} (hb : W0.heap.size = base) (h1 : Below base W0 w) (h2 : Below base W0 w') (hs : w.heap.size ≤ w'.heap.size) (h : ∀ k, O k → w'.heap[k]? = w.heap[k]?) :
    (if j = t then BoxS base R v O w else p.holds base v O w) → if j = t then BoxS base R v O w' else p.holds base v O w' := by
  intro hh
  split at hh
  · next e => rw [if_pos e]; exact hh.keep h
  · next e => rw [if_neg e]; exact FP.keep hb h1 h2 hs h hh
theorem flat_two (a b : List Int) : flatTo [a, b] 2 = a ++ b := by simp [flatTo, foldTo]
/-- one word or its inverse -/
def midTo (L : List W) (ws : W) (x : Int) (j : Nat) : List W := foldTo (fun j l => rotL l ([ws, Ct.inv ws].getD j []) x) j L
end Go.Proofs
namespace Go.Proofs
open Go.RowKit Go.Shelf Go.Proofs.Ct Go.Maps
theorem wordsTo2_len {rels : List W} (h : ∀ j, (rels.getD j []).length ≤ 100) (x : Int) (k : Nat) : (wordsTo2 rels x k).length ≤ k * 200 := by
  induction k with
  | zero => exact Nat.le_refl _
  | succ k ih =>
    rw [show wordsTo2 rels x (k + 1) = rotL (rotL (wordsTo2 rels x k) (rels.getD k []) x) (Ct.inv (rels.getD k [])) x from rfl]
    have h1 := rotTo_len (rotL (wordsTo2 rels x k) (rels.getD k []) x) (Ct.inv (rels.getD k [])) x (Ct.inv (rels.getD k [])).length
    have h2 := rotTo_len (wordsTo2 rels x k) (rels.getD k []) x (rels.getD k []).length
    have h3 := h k
    rw [length_inv] at h1
    unfold rotL
    rw [length_inv]
    unfold rotL at h1
    omega
set_option maxRecDepth 100000 in
set_option maxHeartbeats 1000000 in
theorem words140_any (w : World) (vr : Value) (rels : List W) (g x : Int) (hR : Tab w vr rels) (hx1 : -9223372036854775808 ≤ x) (hx2 : x ≤ 9223372036854775807) (hm : ∀ j, ∀ z ∈ rels.getD j [], Mild z) (hlen : ∀ j, (rels.getD j []).length ≤ 100) (hn : rels.length ≤ 200) :
    Calls Try.prog 140 #[.agg #[.int .i64 g, vr], .int .i64 x] w fun e w' => (∃ A c, e = .returned (.slice A (wordsX rels x).length c) ∧ TabB w.heap.size w' (.slice A (wordsX rels x).length c) (wordsX rels x)) ∧ Below w.heap.size w w' := by
  obtain ⟨Ar, cr, rfl⟩ := Tab.form hR
  have HP : Hid (∀ W, W = w.alloc (.cells #[.int .i64 g, .slice Ar rels.length cr] 40) → Below w.heap.size w W ∧ W.heap[w.heap.size]? = some (.cells #[.int .i64 g, .slice Ar rels.length cr] 40 (0, 0)) ∧ W.heap.size = w.heap.size + 1) := Lib.hid fun W h => by
    subst h
    exact ⟨(Below.refl _ _).alloc (Nat.le_refl _) _, heap_alloc_new w _, by simp⟩
  have HRR := Lib.hid hR
  have HM := Lib.hid hm
  have HLEN := Lib.hid hlen
  have hrn0 : (0 : Int) ≤ (rels.length : Int) := Int.natCast_nonneg _
  have hrn1 : (rels.length : Int) ≤ 200 := by omega
  have HW2 : Hid (∀ k, (wordsTo2 rels x k).length ≤ k * 200 ∧ (rotL (wordsTo2 rels x k) (rels.getD k []) x).length ≤ k * 200 + 100) := Lib.hid fun k => ⟨wordsTo2_len hlen x k, by
    have h1 := wordsTo2_len hlen x k
    have h2 := rotTo_len (wordsTo2 rels x k) (rels.getD k []) x (rels.getD k []).length
    have h3 := hlen k
    unfold rotL
    omega⟩
  unfold wordsX
  clear hR hm hlen
  go_enter Try.func140, Try.ntmps140
  go_wp2_with fail
  generalize hw0 : w.alloc (.cells #[.int .i64 g, .slice Ar rels.length cr] 40) = w0 at *
  obtain ⟨hb0, hbx, hsz⟩ := HP.out w0 rfl
  have HB0 := Lib.hid hb0
  have HCE : Hid (∀ W, Below w0.heap.size w0 W → W.cell? ⟨w.heap.size, 1, none⟩ = some (.slice Ar rels.length cr)) := Lib.hid fun W h => (cell_of2 ((h.block _ (by omega)).trans hbx)).2
  have HT : Hid (Tab w0 (.slice Ar rels.length cr) rels) := Lib.hid (kept_tab.below HRR.out hb0)
  have HSZ := Lib.hid hsz
  clear hw0 hb0 hbx HP hsz
  go_loopw [5, 6] (fun vo i wr => ∃ (k : Nat) (A : Option Addr) (c : Nat), i = .int .i64 (k : Int) ∧ k ≤ rels.length ∧ vo = .slice A (wordsTo2 rels x k).length c ∧ Hid (∃ F1, OutSt 25 F1 w0 wr vo (wordsTo2 rels x k))) (fun _ i _ => rels.length - (intOf i).toNat)
  case atStart => exact ⟨0, none, 0, rfl, Nat.zero_le _, rfl, Lib.hid ⟨_, OutSt.nil 25 (Below.refl _ _)⟩⟩
  case round =>
    obtain ⟨k, A, c, rfl, hk, rfl, HO⟩ := hrel
    have hk0 : (0 : Int) ≤ (k : Int) := Int.natCast_nonneg _
    have hbl : Below w0.heap.size w0 wr := by obtain ⟨F1, h⟩ := HO.out; exact h.below
    have hcr := HCE.out _ hbl
    by_cases hlt : k < rels.length
    · have hkI : (k : Int) < (rels.length : Int) := by omega
      have hT := kept_tab.below HT.out hbl
      obtain ⟨bs, os, rfl, hcell⟩ := hT.cells (by omega)
      obtain ⟨u, hu, hI⟩ := hcell k hlt
      obtain ⟨vals0, hs0, hl0, hrw0⟩ := HT.out
      obtain ⟨b0, o0, e0, hcell0⟩ := HT.out.cells (by omega)
      obtain ⟨u0, hu0, hI0⟩ := hcell0 k hlt
      have hbo : (⟨bs, os, none⟩ : Addr) = ⟨b0, o0, none⟩ := by
        exact Option.some.inj e0
      obtain ⟨rfl, rfl, -⟩ := Addr.mk.inj hbo
      have huu : u = u0 := by
        have h1 := (hbl.cell (p := ⟨bs, os + k, none⟩) (World.block_lt_of_cell? w0 _ hu0)).trans hu0
        exact Option.some.inj (hu.symm.trans h1)
      subst huu
      have hIF := IntsF.of_at hI0
      have hws : (wordsTo2 rels x (k + 1)) = rotL (rotL (wordsTo2 rels x k) (rels.getD k []) x) (Ct.inv (rels.getD k [])) x := rfl
      have h192 : Hid (∀ (W1 : World) (L1 : List (List Int)) (vo v : Value) (l : List Int), (∃ F1, OutSt 25 F1 w0 W1 vo L1) → IntsF (fun q => q < W1.heap.size ∧ vo.ownBlock ≠ some q) W1 v l → L1.length ≤ 100000 → l.length ≤ 100000 → Calls Try.prog 192 #[vo, v, .int .i64 x] W1 fun e w' => ∃ A c, e = .returned (.slice A (rotL L1 l x).length c) ∧ ∃ F', OutSt 25 F' w0 w' (.slice A (rotL L1 l x).length c) (rotL L1 l x)) := Lib.hid fun W1 L1 vo v l ⟨F1, h1⟩ h2 h3 h4 => (rotations192_any w0 W1 F1 vo v L1 l x h1 h2 hx1 hx2 h3 h4).mono fun e w' ⟨A, c, F', a, b, _⟩ => ⟨A, c, a, F', b⟩
      have hC1 := h192.out wr _ (.slice A (wordsTo2 rels x k).length c) u (rels.getD k []) HO.out ((hIF.keep (fun q hq => hbl.block q hq)).mono fun q hq => ⟨Nat.lt_of_lt_of_le hq hbl.size, fun e => by
        obtain ⟨F1, h⟩ := HO.out
        have := (h.out.block q e).1
        omega⟩) (by have := HW2.out k; omega) (by have := HLEN.out k; omega)
      have HC1 := Lib.hid hC1
      have HUW : Hid (∀ W, Below w0.heap.size w0 W → IntsAt W u (rels.getD k [])) := Lib.hid fun W h => (hIF.keep (fun q hq => h.block q hq)).at_
      have HCEL : Hid (∀ W, Below w0.heap.size w0 W → W.cell? ⟨bs, os + k, none⟩ = some u) := Lib.hid fun W h => (h.cell (World.block_lt_of_cell? w0 _ hu0)).trans hu0
      obtain ⟨Au, cu, rfl, -, -, -⟩ := hI.open_
      have hmk := HM.out k
      have hlk := HLEN.out k
      have HMK := Lib.hid hmk
      have hB2 := (HW2.out k).2
      have HWS := Lib.hid hws
      generalize rels.getD k [] = ws at *
      have HLK := Lib.hid hlk
      have HB2 := Lib.hid hB2
      clear hT hcell hI hs0 hrw0 hcell0 hI0 hbo hIF hws hC1 hmk hlk hB2 hu0 e0 hl0
      generalize hL : wordsTo2 rels x k = L at *
      clear hL
      generalize hL1 : rotL L ws x = L1 at *
      clear hL1
      have hfi : Fits (Ct.inv ws) := Mild.fits (fun z hz => by
        exact mild_inv HMK.out z hz)
      have HFI := Lib.hid hfi
      have HLI := Lib.hid (length_inv ws)
      clear hfi
      go_wp2_with (first
        | (go_at_call 193; (with_reducible refine HIV.out.mono ?_); rintro E w2 ⟨A2, c2, rfl, ho2, hb2⟩
           have hc2 := h192.out w2 L1 (.slice A1 L1.length c1) (.slice A2 ws.length c2) (Ct.inv ws) (by obtain ⟨F1, h⟩ := HO1.out; exact ⟨F1, h.below' hb2⟩) ((IntsF.of_own ho2 HFI.out).mono fun q hq => ⟨owns_lt ho2 hq, fun e => by
             obtain ⟨F1, h⟩ := HO1.out
             have h1 := owns_lt h.out.choose_spec.1 e
             have h2 := (owns_block ho2 q hq).1
             omega⟩) (by have := HB2.out; omega) (by rw [HLI.out]; have := HLK.out; omega)
           have HC2 := Lib.hid hc2
           clear hc2 ho2 hb2)
        | (go_at_call 192; (with_reducible refine HC1.out.mono ?_); rintro E w1 ⟨A1, c1, rfl, hO1⟩
           have hbl1 : Below w0.heap.size w0 w1 := by obtain ⟨F1, h⟩ := hO1; exact h.below
           have hcr1 := HCE.out _ hbl1
           have hu1 := HCEL.out _ hbl1
           have HIV := Lib.hid (inverse193_any w1 _ ws (HUW.out _ hbl1) (by have := HLK.out; omega) HMK.out)
           have HO1 := Lib.hid hO1
           have HW1 := Lib.hid hbl1
           clear hbl1 hO1)
        | (go_at_call 192; (with_reducible refine HC2.out.mono ?_); rintro E w3 ⟨A3, c3, rfl, hO3⟩
           have HO3 := Lib.hid hO3
           clear hO3))
      go_roundw
      case rel => exact ⟨k + 1, A3, c3, by go_num, by omega, by rw [HWS.out], Lib.hid (by rw [HWS.out]; exact HO3.out)⟩
      case measure => simp [intOf]; omega
    · obtain rfl : k = rels.length := by omega
      have HLE : ∃ L, L = wordsTo2 rels x rels.length := ⟨_, rfl⟩
      obtain ⟨L, hL⟩ := HLE
      have HL := Lib.hid hL
      rw [← hL] at HO ⊢
      clear hL hlt hk hbl
      go_wp2_with fail
      go_ret
      obtain ⟨F1, h⟩ := HO.out
      rw [← HL.out]
      exact ⟨⟨_, _, rfl, h.tabB.mono HB0.out.size⟩, HB0.out.trans (h.below.mono HB0.out.size)⟩
end Go.Proofs
