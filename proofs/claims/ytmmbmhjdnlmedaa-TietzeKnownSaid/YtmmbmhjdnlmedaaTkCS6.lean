/- The iterator of pres.rotations; pres.least, pres.Least; Plain: eliminations and shortening steps lead to presentations in their normal form; word.Check where it accepts, pres.Least; slices.SortFunc at words, by word.Cmp; slices.SortFunc at words, whole; pres.equal. -/
import Derived.Test.YtmmbmhjdnlmedaaTkCS5
import Derived.Test.YtmmbmhjdnlmedaaTkCS4
import Derived.Shelf.SlSortCmp.Whole1
import Derived.Shelf.Lay
import Derived.Ground.SlsfProg
import Derived.Test.YtmmbmhjdnlmedaaTkCS2
namespace Go.Proofs
open Go.RowKit Go.Shelf Go.Proofs.Ct Go.Proofs.Tz Go.Maps
attribute [local simp, local go_sem] wideF wideD
attribute [local go_sem] Oper.semAt_some
section
variable {o : Oper} {a : Act} {w w' : World} {n : Nat} {next : Act → World → Prop} {Q : Exit → Act → World → Prop} {v : Value}
theorem wpF_val (hrun : (execOp a.eval o).run Try.prog w = .ok (.value v) w') (h : next (a.put o.dst v) w') : o.wpIn Fence.wide n Try.prog a w next Q :=
  ⟨fun _ _ => trivial, by rw [Fence.wide_round, Oper.semAt_none, hrun]; exact h⟩
theorem wpF_call {f : FuncId} {args : Array Value} {R : Value → World → Prop} (hrun : (execOp a.eval o).run Try.prog w = .ok (.enter f args) w')
    (hc : Calls Try.prog f args w' fun e w'' => ∃ v, e = .returned v ∧ R v w'') (h : ∀ v w'', R v w'' → next (a.put o.dst v) w'') : o.wpIn Fence.wide n Try.prog a w next Q :=
  ⟨fun _ _ => trivial, by
    rw [Fence.wide_round, Oper.semAt_none, hrun]
    refine ⟨fun hh => by simp at hh, callsIn_wide.2 (hc.mono ?_)⟩
    rintro e w'' ⟨v, rfl, hR⟩
    exact h v w'' hR⟩
theorem agg24w (w : World) : (isAgg 24).run Try.prog w = .ok false w := by kernel_rfl
theorem r_ld24 (x : Operand) (ad : Addr) (ho : o.op = .load 24 x) (hx : a.eval x = .pointer (some ad)) (hc : w.cell? ad = some v) : (execOp a.eval o).run Try.prog w = .ok (.value v) w := by
  unfold execOp
  simp only [ho, hx, Instr.loadAt, Instr.sureAddr, loadVar, Sem.run_bind, Sem.run_pure, Result.andThen_ok, agg24w]
  simp [go_sem, hc]
theorem run_sl_hi {t : TypeId} (hu : Try.prog.underlying t = some (.slice (Try.prog.elem t))) (hs : ∀ w, (Go.sizeOf (Try.prog.elem t)).run Try.prog w = .ok 1 w) (x z : Operand) (A : Option Addr) (n c h : Nat) (ho : o.op = .slice t x none (some z) none) (hx : a.eval x = .slice A n c) (hz : a.eval z = .int .i64 (h : Int)) (hc : h ≤ c) : (execOp a.eval o).run Try.prog w = .ok (.value (sliced A 0 h c 1)) w := by
  have hs := hs w
  unfold execOp
  simp only [ho, hx, hz, Option.map_none, Option.map_some, Sem.run_bind, run_sliceAt_slice w t _ _ _ _ hu, run_slice_h w t A n c hu .i64 (h : Int) (by omega) (by omega)]
  simp [hs]
theorem bs25_2 (A B : Option Addr) (n c m d : Nat) (w : World) : (Instr.buildSlice 25 2 #[(0, .slice A n c), (1, .slice B m d)]).run Try.prog w = .ok (.slice (some ⟨w.heap.size, 0, none⟩) 2 2) (w.alloc (.cells #[.slice A n c, .slice B m d] 24)) := by kernel_rfl
theorem r_bs25 (x y : Operand) (A B : Option Addr) (n c m d : Nat) (ho : o.op = .buildSlice 25 2 #[(0, x), (1, y)]) (hx : a.eval x = .slice A n c) (hy : a.eval y = .slice B m d) : (execOp a.eval o).run Try.prog w = .ok (.value (.slice (some ⟨w.heap.size, 0, none⟩) 2 2)) (w.alloc (.cells #[.slice A n c, .slice B m d] 24)) := by
  have hb := bs25_2 A B n c m d w
  unfold execOp
  simp only [ho, List.map_toArray, List.map_cons, List.map_nil, hx, hy, Sem.run_bind, hb, Result.andThen_ok]
  rfl
theorem r_call1 {f : FuncId} (x : Operand) (u : Value) (T : Array TypeId) (ho : o.op = .call { callee := .value (.func f), args := #[x], argTypes := T }) (hx : a.eval x = u)
    (he : ∀ args w, (callFunc f args).run Try.prog w = .ok (.enter f args) w) : (execOp a.eval o).run Try.prog w = .ok (.enter f #[u]) w := by
  have hf : a.eval (.func f) = .func (.func f) #[] #[] := rfl
  unfold execOp
  simp only [ho, resolve, List.map_toArray, List.map_cons, List.map_nil, hx, hf]
  simp [go_sem, he]
end
theorem r_not {o : Oper} {a : Act} {w : World} (x : Operand) (b : Bool) (ho : o.op = .unOp .not 4 x) (hx : a.eval x = .bool b) : (execOp a.eval o).run Try.prog w = .ok (.value (.bool (!b))) w := by
  unfold execOp
  simp only [ho, hx]
  simp [go_sem]
theorem call39 (args : Array Value) (w : World) : (callFunc 39 args).run Try.prog w = .ok (.enter 39 args) w := enters_of Try.func39 (by kernel_rfl) rfl args w
/-- a word of memory laid since the heap had B blocks -/
def FreshW (B : Nat) (x : Value) (u : List Int) (W : World) : Prop := ∃ A c, x = .slice A u.length c ∧ OwnI B W x u
set_option maxRecDepth 100000 in
set_option maxHeartbeats 2000000 in
theorem rot73 (n l bw B : Nat) (J Jx : Nat → World → Prop) (W w0 : World) (A : Option Addr) (c : Nat) (v : List Int)
    (hbox : w0.heap[bw]? = some (.cells #[.slice A v.length c] 24 (0, 0))) (hv : IntsAt w0 (.slice A v.length c) v) (hl : v.length ≤ 1000000) (hW : Below w0.heap.size w0 W) (hB : B ≤ W.heap.size)
    (hJa : ∀ k A B, J k A → Below A.heap.size A B → J k B)
    (hY : ∀ k x W1, J k W1 → k < v.length → FreshW B x (rot v k) W1 → YieldAt Fence.wide (n - 1) Try.prog l #[x] W1 fun e W' => (e = .returned (.bool true) ∧ J (k + 1) W' ∧ Below w0.heap.size W1 W') ∨ (e = .returned (.bool false) ∧ Jx (k + 1) W'))
    (h0 : J 0 W) :
    CallsIn Fence.wide n Try.prog 73 #[.func (.yield l) #[] #[], .pointer (some ⟨bw, 0, none⟩)] W fun e W' => (∃ v, e = .returned v) ∧ (J v.length W' ∨ ∃ k, Jx k W') := by
  have HJA := Lib.hid hJa
  have HY := Lib.hid hY
  have H0 := Lib.hid h0
  have HV := Lib.hid hv
  have HBX := Lib.hid hbox
  have HW := Lib.hid hW
  have HBB := Lib.hid hB
  have hcb : W.cell? ⟨bw, 0, none⟩ = some (.slice A v.length c) := by
    rw [hW.cell (World.block_lt_of_cell? w0 _ (show w0.cell? ⟨bw, 0, none⟩ = some (.slice A v.length c) by rw [cell_of_row _ _ _ _ _ _ hbox]; rfl)), cell_of_row _ _ _ _ _ _ hbox]; rfl
  have HL := Lib.hid hl
  have hl1 : (v.length : Int) ≤ 1000000 := by omega
  have hl0 : (0 : Int) ≤ (v.length : Int) := Int.natCast_nonneg _
  clear hJa hY h0 hv hbox hW hl hB
  gi_enter Try.func73, Try.ntmps73
  gi_wp2_with fail
  gi_loopw [6] (fun i wr => ∃ k : Nat, i = .int .i64 k ∧ k ≤ v.length ∧ Hid (J k wr ∧ Below w0.heap.size w0 wr ∧ B ≤ wr.heap.size)) (fun i _ => v.length - (intOf i).toNat)
  case atStart => exact ⟨0, rfl, by omega, Lib.hid ⟨H0.out, HW.out, HBB.out⟩⟩
  case round =>
    obtain ⟨k, rfl, hk, HS⟩ := hrel
    have hk0 : (0 : Int) ≤ (k : Int) := Int.natCast_nonneg _
    by_cases hlt : k < v.length
    · have hlt' : (k : Int) < (v.length : Int) := by omega
      have hcap : v.length ≤ c := by
        obtain ⟨A', c', e1, h5, -, -⟩ := HV.out.open_
        injection e1 with e1 e2 e3
        omega
      have hbl : bw < w0.heap.size := (Array.getElem?_eq_some_iff.1 HBX.out).1
      have HC2 : Hid (∀ w', Below w0.heap.size w0 w' → w'.cell? ⟨bw, 0, none⟩ = some (.slice A v.length c)) := Lib.hid fun w' h => by
        rw [cell_of_row _ _ _ _ _ _ ((h.block bw hbl).trans HBX.out)]; rfl
      obtain ⟨A1, hs1, hi1⟩ := ints_cut (k := k) (h := v.length) HV.out hk (Nat.le_refl _)
      obtain ⟨A2, hs2, hi2⟩ := ints_cut (k := 0) (h := k) HV.out (Nat.zero_le _) hk
      rw [List.take_length] at hi1
      rw [List.drop_zero, Nat.sub_zero, Nat.sub_zero] at hi2
      rw [Nat.sub_zero, Nat.sub_zero] at hs2
      have HS1 := Lib.hid hs1
      have HS2 := Lib.hid hs2
      have HI1 := Lib.hid hi1
      have HI2 := Lib.hid hi2
      have HCAT : Hid (∀ (w' : World) (u : Value), Tab w' u [v.drop k, v.take k] → B ≤ w'.heap.size → Calls Try.prog 39 #[u] w' fun e w'' => ∃ x, e = .returned x ∧ FreshW B x (rot v k) w'' ∧ Below w'.heap.size w' w'') := Lib.hid fun w' u htab hB => by
        refine (concat100_any _ _ _ htab (by simp [sumTo, Ct.foldTo]; have := HL.out; omega)).mono fun e w'' (⟨A, c, h1, h2, h3⟩ : CatPost _ _ e w'') => ⟨_, h1, ?_, h3⟩
        have e1 : flatTo [v.drop k, v.take k] [v.drop k, v.take k].length = rot v k := by simp [flatTo, Ct.foldTo, Tz.rot]
        rw [e1] at h2
        rw [e1]
        exact ⟨A, c, rfl, owns_base h2 hB⟩
      have HPAIR : Hid (∀ w' : World, Below w0.heap.size w0 w' → Tab (w'.alloc (.cells #[.slice A1 (v.length - k) (c - k), .slice A2 k c] 24)) (.slice (some ⟨w'.heap.size, 0, none⟩) 2 2) [v.drop k, v.take k]) := Lib.hid fun w' h => by
        have h1 := HI1.out.below h
        have h2 := HI2.out.below h
        have := tab_two w' _ _ _ _ h1 h2 (e := 24)
        exact this
      clear hs1 hs2 hi1 hi2
      gi_wp2_with fail
      refine wpIn_region_tail (by kernel_rfl) 9 9 (tailed_of (by kernel_rfl)) (fun w' => Below w0.heap.size w0 w' ∧ B ≤ w'.heap.size ∧ Below wr.heap.size wr w')
        (fun q u W' => if q = 7 then Tab W' u [v.drop k, v.take k] else if q = 8 then FreshW B u (rot v k) W' else u = [Value.func (.yield l) #[] #[], .slice A v.length c, .int .i64 k, .slice A1 (v.length - k) (c - k), .slice A v.length c, .int .i64 k, .slice A2 k c].getD q undef)
        (fun w w' => Below w.heap.size w w') ?_ (Nat.le_of_ble_eq_true rfl) ⟨HS.out.2.1.drew, HS.out.2.2, (Below.refl _ _).drew⟩ ?_ ?_
      · intro q u W' W'' hb hq
        split at hq
        · rw [if_pos (by assumption)]; exact kept_tab.below hq hb
        · rw [if_neg (by assumption)]
          split at hq
          · rw [if_pos (by assumption)]
            obtain ⟨A3, c3, h1, h2⟩ := hq
            exact ⟨A3, c3, h1, owns_below h2 hb⟩
          · rw [if_neg (by assumption)]; exact hq
      · intro q o a w4 hq ho hS hsame hpre
        have hcases : q = 0 ∨ q = 1 ∨ q = 2 ∨ q = 3 ∨ q = 4 ∨ q = 5 ∨ q = 6 ∨ q = 7 ∨ q = 8 := by omega
        have hst : ∀ w5, Below w4.heap.size w4 w5 → (Below w0.heap.size w0 w5 ∧ B ≤ w5.heap.size ∧ Below wr.heap.size wr w5) := fun w5 hb => ⟨hS.1.trans (hb.mono hS.1.size), Nat.le_trans hS.2.1 hb.size, hS.2.2.trans (hb.mono hS.2.2.size)⟩
        rcases hcases with rfl | rfl | rfl | rfl | rfl | rfl | rfl | rfl | rfl
        · obtain rfl := Option.some.inj ho; exact ⟨rfl, rfl, (by exact wpF_val (r_move (.tmp 0) rfl (hsame.out 0 (.inl (by decide)))) ⟨_, rfl, hS, Below.refl _ _, rfl⟩)⟩
        · obtain rfl := Option.some.inj ho; exact ⟨rfl, rfl, (by exact wpF_val (r_ld24 (.tmp 1) ⟨bw, 0, none⟩ rfl (hsame.out 1 (.inl (by decide))) (HC2.out _ hS.1)) ⟨_, rfl, hS, Below.refl _ _, rfl⟩)⟩
        · obtain rfl := Option.some.inj ho; exact ⟨rfl, rfl, (by exact wpF_val (r_move (.tmp 3) rfl (hsame.out 3 (.inl (by decide)))) ⟨_, rfl, hS, Below.refl _ _, rfl⟩)⟩
        · obtain rfl := Option.some.inj ho; exact ⟨rfl, rfl, (by exact wpF_val (run_sl_lo under24w size24w (.tmp 10) (.tmp 11) A v.length c k rfl (hpre ⟨1, .data⟩ (by simp) rfl) (hpre ⟨2, .data⟩ (by simp) rfl) hk) ⟨_, rfl, hS, Below.refl _ _, HS1.out⟩)⟩
        · obtain rfl := Option.some.inj ho; exact ⟨rfl, rfl, (by exact wpF_val (r_ld24 (.tmp 1) ⟨bw, 0, none⟩ rfl (hsame.out 1 (.inl (by decide))) (HC2.out _ hS.1)) ⟨_, rfl, hS, Below.refl _ _, rfl⟩)⟩
        · obtain rfl := Option.some.inj ho; exact ⟨rfl, rfl, (by exact wpF_val (r_move (.tmp 3) rfl (hsame.out 3 (.inl (by decide)))) ⟨_, rfl, hS, Below.refl _ _, rfl⟩)⟩
        · obtain rfl := Option.some.inj ho; exact ⟨rfl, rfl, (by exact wpF_val (run_sl_hi under24w size24w (.tmp 13) (.tmp 14) A v.length c k rfl (hpre ⟨4, .data⟩ (by simp) rfl) (hpre ⟨5, .data⟩ (by simp) rfl) (by omega)) ⟨_, rfl, hS, Below.refl _ _, HS2.out⟩)⟩
        · obtain rfl := Option.some.inj ho; exact ⟨rfl, rfl, (by exact wpF_val (r_bs25 (.tmp 12) (.tmp 15) A1 A2 _ _ _ _ rfl (hpre ⟨3, .data⟩ (by simp) rfl) (hpre ⟨6, .data⟩ (by simp) rfl)) ⟨_, rfl, hst _ ((Below.refl _ _).alloc (Nat.le_refl _) _), (Below.refl _ _).alloc (Nat.le_refl _) _, HPAIR.out _ hS.1⟩)⟩
        · obtain rfl := Option.some.inj ho; exact ⟨rfl, rfl, (by exact wpF_call (r_call1 (.tmp 16) _ _ rfl rfl call39) (HCAT.out w4 _ (hpre ⟨7, .data⟩ (by simp) rfl) hS.2.1) (fun u w5 h => ⟨u, rfl, hst _ h.2, h.2, h.1⟩))⟩
      · intro a W2 hS hsame hsl
        have e0 : a.tmps.getD 9 undef = .func (.yield l) #[] #[] := hsl 0 (by omega)
        obtain ⟨x, hx⟩ : ∃ x, x = a.tmps.getD 17 undef := ⟨_, rfl⟩
        have e8 : FreshW B x (rot v k) W2 := by rw [hx]; exact hsl 8 (by omega)
        have hj2 : J k W2 := HJA.out _ _ _ HS.out.1 hS.2.2
        obtain ⟨fn, tmps, assign, body, hy, hR⟩ := HY.out k x W2 hj2 hlt e8
        have HSS := Lib.hid hS
        have hfr := hsame.frame (Nat.le_of_ble_eq_true rfl)
        refine wpOpIn_of rfl rfl ⟨fun _ _ => trivial, ?_⟩
        rw [Fence.wide_round, Oper.semAt_none]
        have hrun : ∀ o : Oper, o.op = .call { callee := .value (.tmp 9), args := #[.tmp 17], argTypes := #[24] } → (execOp a.eval o).run Try.prog W2 = .ok (.round l fn tmps assign body) W2 := fun o ho => by
          unfold execOp
          have h1 : a.eval (.tmp 9) = .func (.yield l) #[] #[] := e0
          have h2 : a.eval (.tmp 17) = x := hx.symm
          simp only [ho, resolve, List.map_toArray, List.map_cons, List.map_nil, h1, h2]
          simp [go_sem, hy]
        rw [hrun _ rfl]
        refine ⟨fun hh => by simp at hh, hR.mono ?_⟩
        rintro e W3 (⟨rfl, hj, hkp⟩ | ⟨rfl, hj⟩)
        · refine wpOpIn_of rfl rfl (wpF_val (r_not (.tmp 18) true rfl (put_getD_same _ _ _ (by rw [hsame.size]; exact Nat.le_of_ble_eq_true rfl))) ?_)
          have HS3 := Lib.hid (show J (k + 1) W3 ∧ Below w0.heap.size w0 W3 ∧ B ≤ W3.heap.size from ⟨hj, HSS.out.1.trans hkp, Nat.le_trans HSS.out.2.1 hkp.size⟩)
          clear hS hsl e0 e8 hj2 hy hR hrun hj hkp hx HSS
          generalize (fun i => a.tmps.getD (9 + i) undef) = vs at hfr
          subst hfr
          simp only [Act.put, List.take_succ_cons, List.take_zero, List.drop_succ_cons, List.drop_zero, List.map_cons, List.map_nil, List.range, List.range.loop, List.cons_append, List.nil_append, List.setIfInBounds_toArray, Nat.reduceAdd]
          gi_wp2_with fail
          exact ⟨⟨k + 1, by go_num, by omega, HS3⟩, by simp [intOf]; omega⟩
        · refine wpOpIn_of rfl rfl (wpF_val (r_not (.tmp 18) false rfl (put_getD_same _ _ _ (by rw [hsame.size]; exact Nat.le_of_ble_eq_true rfl))) ?_)
          have HJX := Lib.hid hj
          clear hS hsl e0 e8 hj2 hy hR hrun hj hx HSS
          generalize (fun i => a.tmps.getD (9 + i) undef) = vs at hfr
          subst hfr
          simp only [Act.put, List.take_succ_cons, List.take_zero, List.drop_succ_cons, List.drop_zero, List.map_cons, List.map_nil, List.range, List.range.loop, List.cons_append, List.nil_append, List.setIfInBounds_toArray, Nat.reduceAdd]
          gi_wp2_with fail
          exact bodyPost_ret (results_none rfl _ _ _) rfl ⟨⟨_, rfl⟩, .inr ⟨_, HJX.out⟩⟩
    · have hlt' : ¬ (k : Int) < (v.length : Int) := by omega
      have hke : k = v.length := by omega
      subst hke
      gi_wp2_with fail
      go_end0
      exact ⟨⟨_, rfl⟩, .inl HS.out.1⟩
end Go.Proofs
namespace Go.Proofs
open Go.RowKit Go.Shelf Go.Lib Go.Sort Go.Proofs.Ct Go.Proofs.Tz Go.Maps
attribute [local simp, local go_sem] wideF wideD
attribute [local go_sem] Oper.semAt_some
theorem rotations62_any (w : World) (v : Value) (x : List Int) (h : IntsAt w v x) : Calls Try.prog 62 #[v] w fun e w' => e = .returned (.func (.func 73) #[] #[.pointer (some ⟨w.heap.size, 0, none⟩)]) ∧ w' = w.alloc (.cells #[v] 24) := by
  obtain ⟨A, c, rfl, -, -, -⟩ := h.open_
  clear h
  go_enter Try.func62, Try.ntmps62
  go_wp2_with fail
  go_ret
  exact ⟨rfl, rfl⟩
theorem cell_putObj {A : World} {p : Addr} {v : Value} {l : Nat} {o o' : Obj} (h : A.cell? p = some v) (ho : A.heap[l]? = some o) (hn : o.isCells = false) : (A.putObj l o').cell? p = some v := by
  have hne : p.block ≠ l := fun e => by
    unfold World.cell? at h
    rw [e, ho] at h
    cases o <;> simp_all [Obj.isCells]
  rw [World.cell?_of_block (World.putObj_heap_other hne)]
  exact h
theorem ints_putObj {A : World} {u : Value} {x : List Int} {l : Nat} {o o' : Obj} (h : IntsAt A u x) (ho : A.heap[l]? = some o) (hn : o.isCells = false) : IntsAt (A.putObj l o') u x := by
  obtain ⟨⟨A0, n, cap, h1, h2, h3, h4, h5⟩, hf⟩ := h
  refine ⟨⟨A0, n, cap, h1, h2, h3, h4, fun hp => ?_⟩, hf⟩
  obtain ⟨b, off, e, hr⟩ := h5 hp
  exact ⟨b, off, e, fun j v hv => cell_putObj (hr j v hv) ho hn⟩
theorem fresh_putObj {B : Nat} {A : World} {u : Value} {x : List Int} {l : Nat} {o o' : Obj} (h : FreshW B u x A) (ho : A.heap[l]? = some o) (hn : o.isCells = false) : FreshW B u x (A.putObj l o') := by
  obtain ⟨A0, c, rfl, h1, h2⟩ := h
  refine ⟨A0, c, rfl, h1, ?_⟩
  rcases h2 with h2 | ⟨g, cap, cur, e, hB, hg, h3⟩
  · exact .inl h2
  · refine .inr ⟨g, cap, cur, e, hB, ?_, h3⟩
    have hne : g ≠ l := fun e => by subst e; rw [ho] at hg; cases hg; cases hn
    rw [World.putObj_heap_other hne]
    exact hg
theorem FreshW.below {B : Nat} {A A' : World} {u : Value} {x : List Int} (h : FreshW B u x A) (hb : Below A.heap.size A A') : FreshW B u x A' := by
  obtain ⟨A0, c, rfl, h1⟩ := h
  exact ⟨A0, c, rfl, owns_below h1 hb⟩
/-- a word of memory of the call's own is not in a box below -/
theorem FreshW.set {B : Nat} {A : World} {u z : Value} {x : List Int} {b : Nat} (h : FreshW B u x A) (hb : b < B) : FreshW B u x (A.setCell ⟨b, 0, none⟩ z) := by
  obtain ⟨A0, c, rfl, h1, h2⟩ := h
  refine ⟨A0, c, rfl, h1, ?_⟩
  rcases h2 with h2 | ⟨g, cap, cur, e, hB, hg, h3⟩
  · exact .inl h2
  · exact .inr ⟨g, cap, cur, e, hB, (Below.heap_setCell A ⟨b, 0, none⟩ z g (by show g ≠ b; omega)).trans hg, h3⟩
theorem FreshW.ints {B : Nat} {A : World} {u : Value} {x : List Int} (h : FreshW B u x A) (hf : Fits x) : IntsAt A u x := by
  obtain ⟨A0, c, rfl, h1⟩ := h
  exact OwnI.ints h1 hf
theorem mild_rot {v : List Int} (h : ∀ z ∈ v, Mild z) (k : Nat) : ∀ z ∈ rot v k, Mild z := fun z hz => h z (mem_rot hz)
theorem mild_best {v b : List Int} (hv : ∀ z ∈ v, Mild z) (hb : ∀ z ∈ b, Mild z) (k : Nat) : ∀ z ∈ bestTo v b k, Mild z := by
  rcases bestTo_is v b k with e | ⟨j, -, e⟩ <;> rw [e]
  · exact hb
  · exact mild_rot hv j
/-- what the range over the rotations keeps: the boxes, the best word so far -/
structure LstSt (w : World) (b : Nat) (y : List Int) (W : World) : Prop where
  below : Below w.heap.size w W
  size : w.heap.size + 2 ≤ W.heap.size
  cmp : W.heap[w.heap.size + 1]? = some (.cells #[.func (.func 46) #[] #[]] 84 (0, 0))
  first : ∃ u, W.heap[w.heap.size]? = some (.cells #[u] 24 (0, 0)) ∧ IntsAt W u y
theorem LstSt.step {w : World} {b : Nat} {y : List Int} {A B : World} (h : LstSt w b y A) (hb : Below A.heap.size A B) : LstSt w b y B := by
  obtain ⟨u, h1, h2⟩ := h.first
  have hs := h.size
  exact ⟨h.below.trans (hb.mono h.below.size), Nat.le_trans h.size hb.size, (hb.block _ (by omega)).trans h.cmp, u, (hb.block _ (by omega)).trans h1, h2.below hb⟩
theorem LstSt.put {w : World} {b : Nat} {y : List Int} {A : World} {l : Nat} {o o' : Obj} (h : LstSt w b y A) (hl : w.heap.size + 2 ≤ l) (ho : A.heap[l]? = some o) (hn : o.isCells = false) : LstSt w b y (A.putObj l o') := by
  obtain ⟨u, h1, h2⟩ := h.first
  exact ⟨h.below.trans ⟨rfl, rfl, rfl, by simp, fun k hk => World.putObj_heap_other (by omega)⟩, by simp; exact h.size, (World.putObj_heap_other (by omega)).trans h.cmp, u, (World.putObj_heap_other (by omega)).trans h1, ints_putObj h2 ho hn⟩
theorem LstSt.set {w : World} {b : Nat} {y z : List Int} {A : World} {u : Value} (h : LstSt w b y A) (hu : FreshW (w.heap.size + 2) u z A) (hf : Fits z) : LstSt w b z (A.setCell ⟨w.heap.size, 0, none⟩ u) := by
  obtain ⟨u0, h1, -⟩ := h.first
  have hne : ∀ k, k ≠ w.heap.size → (A.setCell ⟨w.heap.size, 0, none⟩ u).heap[k]? = A.heap[k]? := fun k hk => Below.heap_setCell A ⟨w.heap.size, 0, none⟩ _ k hk
  refine ⟨h.below.trans ⟨rfl, rfl, rfl, by simp [World.setCell], fun k hk => hne k (by omega)⟩, by simp [World.setCell]; exact h.size, (hne _ (by omega)).trans h.cmp, u, ?_, (hu.set (by omega)).ints hf⟩
  simp [World.setCell, Array.getElem?_modify, h1]
/-- the activation in a round -/
def bare61 (vf vg : Value) (b : Nat) (x7 x9 : Value) : Act :=
  { tmps := #[vf, vg, .func (.func 46) #[] #[], .pointer (some ⟨b, 0, none⟩), undef, .pointer (some ⟨b + 1, 0, none⟩), .slice none 0 0, x7, vg, x9, undef, undef, undef, undef, undef, undef, undef], defers := [] }
set_option maxRecDepth 100000 in
set_option maxHeartbeats 4000000 in
theorem least61_in (n : Nat) (w : World) (vf : Value) (A : Option Addr) (c bw : Nat) (v b : List Int) (hbox : w.heap[bw]? = some (.cells #[.slice A v.length c] 24 (0, 0))) (hv : IntsAt w (.slice A v.length c) v) (hf : IntsAt w vf b) (hl : v.length ≤ 1000000)
    (hmv : ∀ z ∈ v, Mild z) (hmb : ∀ z ∈ b, Mild z) :
    CallsIn Fence.wide n Try.prog 61 #[vf, .func (.func 73) #[] #[.pointer (some ⟨bw, 0, none⟩)], .func (.func 46) #[] #[]] w fun e w' => ∃ u, e = .returned u ∧ IntsAt w' u (bestTo v b v.length) ∧ Below w.heap.size w w' := by
  obtain ⟨A0, c0, rfl, -, -, -⟩ := hf.open_
  have HBX := Lib.hid hbox
  have HV := Lib.hid hv
  have HF := Lib.hid hf
  have HL := Lib.hid hl
  have HMV := Lib.hid hmv
  have HMB := Lib.hid hmb
  clear hbox hv hf hl hmv hmb
  refine callsIn_of_wp_marks Try.func61 rfl trivial ?_ rfl
  simp only [Try.ntmps61, List.size_toArray, List.length_cons, List.length_nil, Nat.reduceAdd, Nat.reduceSub, Array.replicate_succ, Array.replicate_zero, List.push_toArray, List.append_toArray, List.nil_append, List.cons_append]
  gi_wp2_with fail
  obtain ⟨W1, hW1⟩ : ∃ W1, (w.alloc (.cells #[.slice A0 b.length c0] 24)).alloc (.cells #[.func (.func 46) #[] #[]] 84) = W1 := ⟨_, rfl⟩
  have hs1 : W1.heap.size = w.heap.size + 2 := by rw [← hW1]; simp
  have hb1 : Below w.heap.size w W1 := by rw [← hW1]; exact ((Below.refl _ w).alloc (Nat.le_refl _) _).alloc (by simp) _
  have ho1 : W1.heap[w.heap.size + 1]? = some (.cells #[.func (.func 46) #[] #[]] 84 (0, 0)) := by rw [← hW1]; have := heap_alloc_new (w.alloc (.cells #[.slice A0 b.length c0] 24)) (.cells #[.func (.func 46) #[] #[]] 84); rwa [World.size_alloc] at this
  have ho0 : W1.heap[w.heap.size]? = some (.cells #[.slice A0 b.length c0] 24 (0, 0)) := by rw [← hW1]; exact (Below.heap_alloc _ _ _ (by simp)).trans (heap_alloc_new w _)
  have HST : Hid (LstSt w 0 (bestTo v b 0) W1) := Lib.hid ⟨hb1, by omega, ho1, _, ho0, HF.out.below hb1⟩
  rw [hW1]
  clear hW1 ho1 ho0
  refine wpIn_rangeVals (α := Value) (gf := 73) (lb := #[.pointer (some ⟨bw, 0, none⟩)]) rfl (enters_of Try.func73 (by kernel_rfl) rfl) (encs := fun x => #[x]) v.length (fun k x W => FreshW (w.heap.size + 2) x (rot v k) W) (fun A B => Below w.heap.size A B)
    (fun h k => h.trans k) (fun W l o o' hl ho hn => ⟨rfl, rfl, rfl, by simp, fun k hk => World.putObj_heap_other (by omega)⟩) (fun _ => rfl) (fun k x A l o o' h hl ho hn => fresh_putObj h ho hn)
    (fun l J Jx W hb hJa hJx hY h0 => rot73 (n - 1) l bw (w.heap.size + 2) J Jx W w A c v HBX.out HV.out HL.out (hb1.trans (hb.mono hb1.size)) (by have := hb.size; omega) hJa hY h0)
    (fun k W => LstSt w 0 (bestTo v b k) W) (fun _ _ => False) (fun k A B h hb => h.step hb) (fun _ _ _ h _ => h) (fun k A l o o' h hl ho hn => h.put (by omega) ho hn) (fun _ _ _ _ _ h _ _ _ => h)
    HST.out (fun x => bare61 (.slice A0 b.length c0) (.func (.func 73) #[] #[.pointer (some ⟨bw, 0, none⟩)]) w.heap.size x x) ?assign ?body ?done (fun _ _ _ _ h => h.elim)
  case assign =>
    rintro l x W K hK
    gi_wp2_with (rw [Oper.semAt_eq _ _ _ (fun c h => by cases h)]; go_simp)
    exact hK
  case body =>
    rintro l k x W hI hk hel hsz
    obtain ⟨u, h1, h2⟩ := hI.first
    have hcf : W.cell? ⟨w.heap.size, 0, none⟩ = some u := by rw [cell_of_row _ _ _ _ _ _ h1]; rfl
    have hcm : W.cell? ⟨w.heap.size + 1, 0, none⟩ = some (.func (.func 46) #[] #[]) := by rw [cell_of_row _ _ _ _ _ _ hI.cmp]; rfl
    have HSUCC : Hid (bestTo v b (k + 1) = if cmpW (rot v k) (bestTo v b k) < 0 then rot v k else bestTo v b k) := Lib.hid rfl
    have hmr := mild_rot HMV.out k
    have hmb := mild_best HMV.out HMB.out k
    have HC := Lib.hid (cmp46_any W x u (rot v k) (bestTo v b k) (hel.ints (Mild.fits hmr)) h2 hmr hmb)
    have HI := Lib.hid hI
    have HEL := Lib.hid hel
    have HFR := Lib.hid (Mild.fits hmr)
    have HSZ := Lib.hid hsz
    obtain ⟨A5, c5, rfl, -⟩ := hel
    obtain ⟨A6, c6, rfl, -, -, -⟩ := h2.open_
    clear hI h1 hmr hmb h2 hsz
    generalize rot v k = y at *
    generalize bestTo v b k = z at *
    generalize bestTo v b (k + 1) = z' at *
    simp only [bare61]
    by_cases hlt : cmpW y z < 0
    · have HZ : Hid (z' = y) := Lib.hid (by rw [HSUCC.out, if_pos hlt])
      have hd : decide (cmpW y z < 0) = true := decide_eq_true hlt
      generalize cmpW y z = r at *
      clear hlt HSUCC
      gi_wp2_with (first
        | (refine CallsIn.mono (show CallsIn Fence.wide _ _ _ _ _ _ from callsIn_wide.2 HC.out) ?_; rintro e W2 ⟨rfl, hg⟩
           have HG := Lib.hid hg
           have HI2 := Lib.hid (HI.out.step hg.below)
           have HE2 := Lib.hid (HEL.out.below hg.below)
           obtain ⟨u2, h3, -⟩ := HI2.out.first
           have hc2 : W2.cell? ⟨w.heap.size, 0, none⟩ = some u2 := by rw [cell_of_row _ _ _ _ _ _ h3]; rfl
           have hf2 : W2.frozen? ⟨w.heap.size, 0, none⟩ = false := by simp [World.frozen?, h3]
           clear hg h3)
        | (rw [Oper.semAt_eq _ _ _ (fun c h => by cases h)]; go_simp))
      have hSt := HI2.out.set HE2.out HFR.out
      have hwz : w.heap.size + 2 ≤ W.heap.size := HI.out.size
      refine ⟨⟨by simp [World.setCell]; exact HG.out.below.size, fun k o hk ho hn => ?_⟩, ?_, by rw [HZ.out]; exact hSt⟩
      · exact (Below.heap_setCell W2 ⟨w.heap.size, 0, none⟩ _ k (by show k ≠ w.heap.size; omega)).trans ((HG.out.below.block k (Array.getElem?_eq_some_iff.1 ho).1).trans ho)
      · exact (HG.out.below.mono (by omega)).trans ⟨rfl, rfl, rfl, by simp [World.setCell], fun k hk => Below.heap_setCell W2 ⟨w.heap.size, 0, none⟩ _ k (by show k ≠ w.heap.size; omega)⟩
    · have HZ : Hid (z' = z) := Lib.hid (by rw [HSUCC.out, if_neg hlt])
      have hd : decide (cmpW y z < 0) = false := decide_eq_false hlt
      generalize cmpW y z = r at *
      clear hlt HSUCC
      gi_wp2_with (first
        | (refine CallsIn.mono (show CallsIn Fence.wide _ _ _ _ _ _ from callsIn_wide.2 HC.out) ?_; rintro e W2 ⟨rfl, hg⟩
           have HG := Lib.hid hg
           have HI2 := Lib.hid (HI.out.step hg.below)
           clear hg)
        | (rw [Oper.semAt_eq _ _ _ (fun c h => by cases h)]; go_simp))
      have hwz : w.heap.size + 2 ≤ W.heap.size := HI.out.size
      exact ⟨⟨HG.out.below.size, fun k o hk ho hn => (HG.out.below.block k (Array.getElem?_eq_some_iff.1 ho).1).trans ho⟩, HG.out.below.mono (by omega), by rw [HZ.out]; exact HI2.out⟩
  case done =>
    rintro D W hD hI hDD
    obtain ⟨u, h1, h2⟩ := hI.first
    have hcf : W.cell? ⟨w.heap.size, 0, none⟩ = some u := by rw [cell_of_row _ _ _ _ _ _ h1]; rfl
    have HI := Lib.hid hI
    have HU := Lib.hid h2
    have HDD := Lib.hid hDD
    obtain ⟨A6, c6, rfl, -, -, -⟩ := h2.open_
    clear h2 hI hDD h1
    gi_wp2_with fail
    refine ⟨by simp, .inl ⟨_, _, rfl, run_takeDeferred HDD.out, ?_⟩⟩
    refine ⟨_, results_tmp rfl _ _ _, ?_⟩
    exact ⟨_, rfl, ints_putObj HU.out HDD.out rfl, HI.out.below.trans ⟨rfl, rfl, rfl, by simp, fun k hk => World.putObj_heap_other (by omega)⟩⟩
end Go.Proofs
namespace Go.Proofs.Tz
open Go.Proofs.Ct (W red inv mulW invW opp foldTo push redTo LOk)
theorem getD_mem' {l : List W} {j : Nat} (h : j < l.length) : l.getD j [] ∈ l := by
  rw [List.getD_eq_getElem?_getD, List.getElem?_eq_getElem h]
  exact List.getElem_mem h
theorem isG_iff {g x : Int} : isG g x = true ↔ x = g ∨ x = -g := by unfold isG; simp
theorem onceW_spec {w : W} {g : Int} {a : Nat} (h : onceW w g = some a) : a < w.length ∧ isG g (w.getD a 0) = true ∧ (∀ x ∈ w.take a, isG g x = false) ∧ ∀ x ∈ w.drop (a + 1), isG g x = false := by
  unfold onceW at h
  split at h
  · rename_i hc
    injection h with h
    have hlt : w.findIdx (isG g) < w.length := by
      rw [List.findIdx_lt_length]
      obtain ⟨x, h1, h2⟩ := List.countP_pos_iff.1 (show 0 < w.countP (isG g) by omega)
      exact ⟨x, h1, h2⟩
    rw [h] at hlt
    have hat : isG g w[a] = true := by
      have := List.findIdx_getElem (xs := w) (p := isG g) (w := by rw [h]; exact hlt)
      simp only [h] at this
      exact this
    have hbe : ∀ x ∈ w.take a, isG g x = false := fun x hx => by
      obtain ⟨i, hi, rfl⟩ := List.mem_iff_getElem.1 hx
      rw [List.length_take] at hi
      have hi2 : i < w.findIdx (isG g) := by rw [h]; omega
      have := List.not_of_lt_findIdx hi2
      rw [List.getElem_take]
      simpa using this
    refine ⟨hlt, by rw [List.getD_eq_getElem?_getD, List.getElem?_eq_getElem hlt]; exact hat, hbe, fun x hx => ?_⟩
    have e : w = w.take a ++ w[a] :: w.drop (a + 1) := by rw [List.getElem_cons_drop, List.take_append_drop]
    rw [e, List.countP_append, List.countP_cons, if_pos hat] at hc
    have h0 : (w.drop (a + 1)).countP (isG g) = 0 := by omega
    have := List.countP_eq_zero.1 h0 x hx
    simpa using this
  · cases h
theorem low_ok {n gen : Nat} {w : W} (hg : 1 ≤ gen ∧ gen ≤ n) (hw : LOk n w) (hno : ∀ x ∈ w, isG gen x = false) : LOk (n - 1) (lowW gen w) := fun y hy => by
  obtain ⟨x, hx, rfl⟩ := List.mem_map.1 hy
  have h1 := hw x hx
  have h2 : ¬ (x = (gen : Int) ∨ x = -(gen : Int)) := fun e => by have := hno x hx; rw [isG_iff.2 e] at this; cases this
  unfold lowI
  split
  · omega
  · split <;> omega
theorem length_low (g : Int) (w : W) : (lowW g w).length = w.length := by simp [lowW]
theorem img_mem {r : W} {a : Nat} {x : Int} (h : x ∈ imgW r a) : (x ∈ r.take a ∨ x ∈ r.drop (a + 1)) ∨ (-x ∈ r.take a ∨ -x ∈ r.drop (a + 1)) := by
  have hv : ∀ y, y ∈ mulW (invW (r.take a)) (invW (r.drop (a + 1))) → -y ∈ r.take a ∨ -y ∈ r.drop (a + 1) := fun y hy => by
    rcases List.mem_append.1 (Ct.red_mem hy) with h | h
    · exact .inl (Ct.mem_inv (Ct.red_mem h))
    · exact .inr (Ct.mem_inv (Ct.red_mem h))
  unfold imgW at h
  simp only at h
  split at h
  · have := hv _ (Ct.mem_inv (Ct.red_mem h))
    rw [Int.neg_neg] at this
    exact .inl this
  · exact .inr (hv x h)
theorem imgs_get {n gen : Nat} {v : W} {i : Nat} (hi : i < n) : (imgsW n gen v).getD i [] = if i + 1 = gen then lowW gen v else lowW gen [(i : Int) + 1] := by
  unfold imgsW
  simp [List.getD_eq_getElem?_getD, hi]
theorem length_imgs (n gen : Nat) (v : W) : (imgsW n gen v).length = n := by simp [imgsW]
theorem imgs_ok {n gen : Nat} {r : W} {a : Nat} (hg : 1 ≤ gen ∧ gen ≤ n) (hr : LOk n r) (h : onceW r gen = some a) : ∀ w ∈ imgsW n gen (imgW r a), LOk (n - 1) w := fun w hw => by
  obtain ⟨-, -, h1, h2⟩ := onceW_spec h
  obtain ⟨i, hi, rfl⟩ := List.mem_map.1 hw
  rw [List.mem_range] at hi
  split
  · have hm : ∀ x ∈ imgW r a, (x ∈ r ∧ isG gen x = false) ∨ (-x ∈ r ∧ isG gen (-x) = false) := fun x hx => by
      rcases img_mem hx with (h | h) | h | h
      · exact .inl ⟨List.mem_of_mem_take h, h1 _ h⟩
      · exact .inl ⟨List.mem_of_mem_drop h, h2 _ h⟩
      · exact .inr ⟨List.mem_of_mem_take h, h1 _ h⟩
      · exact .inr ⟨List.mem_of_mem_drop h, h2 _ h⟩
    refine low_ok hg (fun x hx => ?_) fun x hx => ?_
    · rcases hm x hx with ⟨h, -⟩ | ⟨h, -⟩
      · exact hr x h
      · have := hr _ h; omega
    · rcases hm x hx with ⟨-, h⟩ | ⟨-, h⟩
      · exact h
      · cases e : isG gen x with
        | false => rfl
        | true => rw [isG_iff] at e; rw [isG_iff.2 (by omega)] at h; cases h
  · rename_i hne
    refine low_ok hg (fun x hx => ?_) fun x hx => ?_
    · rw [List.mem_singleton.1 hx]; omega
    · rw [List.mem_singleton.1 hx]
      cases e : isG gen ((i : Int) + 1) with
      | false => rfl
      | true => rw [isG_iff] at e; omega
theorem sbTo_ok {g : Nat} {G : List W} (hG : ∀ w ∈ G, LOk g w) (z : W) : ∀ k, LOk g (sbTo G z k)
  | 0 => fun x hx => absurd hx List.not_mem_nil
  | k + 1 => fun x hx => by
    have hj : ∀ j, LOk g (G.getD j []) := fun j => by
      rcases Nat.lt_or_ge j G.length with h | h
      · exact hG _ (getD_mem' h)
      · rw [List.getD_eq_getElem?_getD, List.getElem?_eq_none h]; exact fun x hx => absurd hx List.not_mem_nil
    have hx' : x ∈ mulW (sbTo G z k) (if 0 < z.getD k 0 then G.getD (z.getD k 0 - 1).toNat [] else inv (G.getD (-(z.getD k 0) - 1).toNat [])) := hx
    rcases List.mem_append.1 (Ct.red_mem hx') with h | h
    · exact sbTo_ok hG z k x h
    · split at h
      · exact hj _ x h
      · exact (hj _).inv x h
theorem sbL_some {G l m : List W} (h : sbL G l = some m) : m = l.map (sbW G) ∧ ∀ z ∈ l, (sbW G z).length ≤ 4000 := by
  unfold sbL at h
  split at h
  · rename_i hc
    injection h with h
    exact ⟨h.symm, fun z hz => by have := List.all_eq_true.1 hc z hz; simpa using this⟩
  · cases h
theorem length_erase {l : List W} (k : Nat) : (l.eraseIdx k).length ≤ l.length := by rw [List.length_eraseIdx]; split <;> omega
/-- a valid presentation -/
structure Vld (n : Nat) (rels : List W) : Prop where
  n1 : 1 ≤ n
  n16 : n ≤ 16
  many : rels.length ≤ 100
  len : lenL rels ≤ 4000
  ok : ∀ w ∈ rels, LOk n w
theorem Cln.vld {n : Nat} {rels : List W} (h : Cln n rels) : Vld n rels := ⟨h.n1, h.n16, h.many, h.len, h.ok⟩
theorem Vld.clean {n : Nat} {rels : List W} (h : Vld n rels) : Cln n (cleanL rels) := cln_clean h.n1 h.n16 h.many h.len h.ok
theorem lenL_mem {l : List W} {w : W} (h : w ∈ l) : w.length ≤ lenL l := by
  induction l with
  | nil => exact absurd h List.not_mem_nil
  | cons x l ih =>
    rw [lenL_cons]
    rcases List.mem_cons.1 h with e | e
    · rw [e]; omega
    · have := ih e; omega
theorem elim_cln {n : Nat} {rels : List W} (h : Vld n rels) {rel gen : Nat} (hr : rel < rels.length) (hg : 1 ≤ gen ∧ gen ≤ n) {l im : List W} (e : elimE n rels rel gen = .inl (l, im)) :
    2 ≤ n ∧ Cln (n - 1) l ∧ im.length = n ∧ (∀ w ∈ im, LOk (n - 1) w) ∧ ∀ w ∈ im, w.length ≤ 1000 := by
  unfold elimE at e
  split at e
  · cases e
  · rename_i a ha
    split at e
    · cases e
    · rename_i hn
      simp only at e
      split at e
      · cases e
      · rename_i hv
        split at e
        · cases e
        · rename_i m hm
          split at e
          · cases e
          · rename_i hl
            injection e with e
            injection e with e1 e2
            obtain ⟨h1, h2⟩ := sbL_some hm
            have hrok := h.ok _ (getD_mem' hr)
            have hio := imgs_ok hg hrok ha
            subst e1 e2
            refine ⟨by have := h.n1; omega, cln_clean (by have := h.n1; omega) (by have := h.n16; omega) ?_ (by omega) (fun w hw => ?_), length_imgs _ _ _, hio, fun w hw => ?_⟩
            · rw [h1, List.length_map]
              have := length_erase (l := rels) rel
              have := h.many
              omega
            · rw [h1] at hw
              obtain ⟨z, -, rfl⟩ := List.mem_map.1 hw
              exact sbTo_ok hio z _
            · obtain ⟨i, -, rfl⟩ := List.mem_map.1 hw
              split
              · rw [length_low]; omega
              · rw [length_low]; simp
theorem turns_mem {r t : W} (hr : CyI r) (h : t ∈ turnsW r) : t.length = r.length ∧ CyI t ∧ ∀ g, LOk g r → LOk g t := by
  rcases List.mem_append.1 h with h | h
  · obtain ⟨k, hk, rfl⟩ := List.mem_map.1 h
    rw [List.mem_range] at hk
    exact ⟨length_rot _ (by omega), hr.rot (by omega), fun g hg x hx => hg x (mem_rot hx)⟩
  · obtain ⟨k, hk, rfl⟩ := List.mem_map.1 h
    rw [List.mem_range, hr.invW, length_inv'] at hk
    rw [hr.invW]
    exact ⟨by rw [length_rot _ (by rw [length_inv']; omega), length_inv'], hr.inv.rot (by rw [length_inv']; omega), fun g hg x hx => hg.inv x (mem_rot hx)⟩
theorem lenL_set : ∀ (l : List W) (k : Nat) (s : W), s.length ≤ (l.getD k []).length → lenL (l.set k s) ≤ lenL l
  | [], _, _, _ => by simp
  | x :: l, 0, s, h => by
    simp at h
    rw [List.set_cons_zero, lenL_cons, lenL_cons]; omega
  | x :: l, k + 1, s, h => by
    have := lenL_set l k s (by simpa using h)
    rw [List.set_cons_succ, lenL_cons, lenL_cons]; omega
theorem shortW_some {s w v : W} (hw : w ≠ []) (h : shortW s w = some v) : v.length < s.length ∧ ∀ g, LOk g s → LOk g w → LOk g v := by
  unfold shortW at h
  simp only at h
  split at h
  · rename_i hl
    split at h
    · rename_i k hk
      have hks : k < s.length := List.mem_range.1 (List.mem_of_find?_eq_some hk)
      injection h with h
      subst h
      have hwl := List.length_pos_iff.2 hw
      refine ⟨?_, fun g hs hw x hx => ?_⟩
      · have h1 := Ct.red_length (invW (w.drop (w.length / 2 + 1)) ++ (rot s k).drop (w.length / 2 + 1))
        have h2 := Ct.red_length (inv (w.drop (w.length / 2 + 1)))
        rw [Ct.length_inv, List.length_drop] at h2
        rw [List.length_append, List.length_drop, length_rot s (by omega)] at h1
        unfold Ct.mulW Ct.invW at *
        omega
      · rcases List.mem_append.1 (Ct.red_mem hx) with h | h
        · have h3 : LOk g (w.drop (w.length / 2 + 1)) := fun y hy => hw y (List.mem_of_mem_drop hy)
          exact h3.inv x (Ct.red_mem h)
        · exact hs x (mem_rot (List.mem_of_mem_drop h))
    · cases h
  · cases h
theorem pairs_mem {n i k : Nat} (h : (i, k) ∈ pairsN n) : i < n ∧ k < n ∧ i ≠ k := by
  unfold pairsN at h
  rw [List.mem_flatten] at h
  obtain ⟨l, h1, h2⟩ := h
  obtain ⟨i', h3, rfl⟩ := List.mem_map.1 h1
  obtain ⟨k', h4, h5⟩ := List.mem_map.1 h2
  injection h5 with e1 e2
  subst e1 e2
  rw [List.mem_filter, List.mem_range] at h4
  exact ⟨List.mem_range.1 h3, h4.1, fun e => by have := h4.2; simp [e] at this⟩
theorem short_cln {n : Nat} {rels l : List W} (h : Cln n rels) (e : shortF rels = some l) : Cln n l := by
  unfold shortF at e
  obtain ⟨⟨i, k⟩, h1, h2⟩ := List.exists_of_findSome?_eq_some e
  obtain ⟨hi, hk, -⟩ := pairs_mem h1
  obtain ⟨t, h3, h4⟩ := List.exists_of_findSome?_eq_some h2
  simp only [Option.map_eq_some_iff] at h4
  obtain ⟨v, h5, rfl⟩ := h4
  have hi' := getD_mem' hi
  have hk' := getD_mem' hk
  obtain ⟨t1, t2, t3⟩ := turns_mem (h.cy _ hi') h3
  have tne : t ≠ [] := fun e => h.ne _ hi' (List.eq_nil_of_length_eq_zero (by rw [← t1, e]; rfl))
  obtain ⟨s1, s2⟩ := shortW_some tne h5
  refine cln_clean h.n1 h.n16 (by rw [List.length_set]; exact h.many) ?_ fun w hw => ?_
  · have := lenL_set rels k v (by omega)
    have := h.len
    show lenL (rels.set k v) ≤ 4000
    omega
  · rcases List.mem_or_eq_of_mem_set hw with e | e
    · exact h.ok w e
    · rw [e]; exact s2 n (h.ok _ hk') (t3 n (h.ok _ hi'))
end Go.Proofs.Tz
namespace Go.Proofs
open Go.RowKit Go.Shelf Go.Lib Go.Sort Go.Proofs.Ct Go.Proofs.Tz Go.Maps
theorem mild_ok {g : Nat} (hg : g ≤ 1000) {x : List Int} (h : LOk g x) : ∀ z ∈ x, Mild z := fun z hz => by
  have := h z hz
  unfold Mild
  omega
set_option maxRecDepth 100000 in
theorem check59_ok (w : World) (u : Value) (x : List Int) (hu : IntsAt w u x) (hok : LOk 16 x) (hl : x.length ≤ 4000) : Calls Try.prog 59 #[u, .int .i64 16] w fun e w' => e = .returned (.int .i64 0) ∧ ∃ q, w' = w.drewN q := by
  obtain ⟨A, c, rfl, h1, h2, hc⟩ := hu.open_
  have HC := Lib.hid hc
  have HOK := Lib.hid hok
  have hx0 : (0 : Int) ≤ (x.length : Int) := Int.natCast_nonneg _
  have hx1 : (x.length : Int) ≤ 4000 := by omega
  clear hc hok hu
  go_enter Try.func59, Try.ntmps59
  go_wp2_with fail
  go_loopw [18] (fun z wr => ∃ k : Nat, k ≤ x.length ∧ z = .int .i64 k ∧ ∃ q, wr = w.drewN q) (fun z _ => x.length - (intOf z).toNat)
  case atStart => exact ⟨0, by omega, rfl, 0, rfl⟩
  case round =>
    obtain ⟨k, hk, rfl, q, rfl⟩ := hrel
    by_cases hkx : k < x.length
    · have hkx' : (k : Int) < (x.length : Int) := by omega
      obtain ⟨b, o, rfl, hcc⟩ := HC.out (by omega)
      have hcx := hcc k hkx
      obtain ⟨g1, g2, g3⟩ := HOK.out.getD hkx
      have HK := Lib.hid hkx
      clear hcc hkx
      generalize x.getD k 0 = z at *
      have d1 : (z == 0) = false := by simpa using g3
      have d2 : z ≤ 16 := by omega
      have d3 : -16 ≤ z := by omega
      clear g1 g2 g3
      go_wp2_with fail
      go_roundw
      case rel => exact ⟨k + 1, by have := HK.out; omega, by go_num, _, rfl⟩
      case measure => have := HK.out; simp [intOf]; omega
    · have hkx' : ¬ (k : Int) < (x.length : Int) := by omega
      obtain rfl : k = x.length := by omega
      go_wp2_with fail
      go_ret
      exact ⟨rfl, _, rfl⟩
theorem leastOf_mild {v : List Int} (h : ∀ z ∈ v, Mild z) : ∀ z ∈ leastZ v, Mild z := by
  unfold leastZ
  exact mild_best (fun z hz => mild_inv h z (Ct.red_mem hz)) (mild_best h h _) _
set_option maxRecDepth 100000 in
set_option maxHeartbeats 1000000 in
theorem least44_any (w : World) (u : Value) (x : List Int) (hu : IntsAt w u x) (hok : LOk 16 x) (hl : x.length ≤ 4000) : Calls Try.prog 44 #[u] w (OwnPost (leastW x) w) := by
  have hm := mild_ok (by omega) hok
  have HCH := Lib.hid (check59_ok w u x hu hok hl)
  have HCY : Hid (∀ q, Calls Try.prog 60 #[u] (w.drewN q) (OwnPost (cyc x) w)) := Lib.hid fun q => (cyclic60_any (w.drewN q) u x (hu.drewN q) hm (by omega)).mono fun e w' h => OwnPost.base (below_drewN (Below.refl _ _) q) h
  have hmc : ∀ z ∈ cyc x, Mild z := fun z hz => hm z ((cyc_sub x).1 z hz)
  have hlc : (cyc x).length ≤ 4000 := Nat.le_trans (cyc_sub x).2 hl
  have HE : Hid (leastW x = bestTo (invW (cyc x)) (bestTo (cyc x) (cyc x) (cyc x).length) (invW (cyc x)).length) := Lib.hid rfl
  have HMC := Lib.hid hmc
  have hli : (invW (cyc x)).length ≤ 4000 := by
    have := Ct.red_length (inv (cyc x))
    rw [Ct.length_inv] at this
    unfold Ct.invW
    omega
  have hmi : ∀ z ∈ invW (cyc x), Mild z := fun z hz => mild_inv hmc z (Ct.red_mem hz)
  have HMI := Lib.hid hmi
  have hlb : (bestTo (cyc x) (cyc x) (cyc x).length).length ≤ 4000 := by
    rcases bestTo_is (cyc x) (cyc x) (cyc x).length with e | ⟨j, hj, e⟩ <;> rw [e]
    · exact hlc
    · rw [length_rot _ (by omega)]; exact hlc
  have hmb := mild_best hmc hmc (cyc x).length
  have HMB := Lib.hid hmb
  have HI : Hid (∀ W v, IntsAt W v (cyc x) → Calls Try.prog 22 #[v] W (RedPost (inv (cyc x)) W)) := Lib.hid fun W v h => invert72_any W v (cyc x) h hmc (by omega)
  have HIE : Hid (invW (cyc x) = red (inv (cyc x))) := Lib.hid rfl
  obtain ⟨A, c, rfl, -, -, -⟩ := hu.open_
  clear hm hmc hmi hmb hu hok
  have hll : (leastW x).length ≤ 4000 := Nat.le_trans (leastW_len x) hl
  generalize leastW x = R at *
  generalize cyc x = v at *
  go_enter Try.func44, Try.ntmps44
  go_wp2_with (first
    | (go_at_call 59; (with_reducible refine HCH.out.mono ?_); rintro e w' ⟨rfl, q, rfl⟩)
    | (go_at_call 60; (with_reducible refine (HCY.out _).mono ?_); rintro e w1 ⟨A1, c1, rfl, ho, hb⟩
       have HV1 := Lib.hid (OwnI.ints ho (Mild.fits HMC.out))
       have HB1 := Lib.hid hb
       clear ho hb))
  have H62 : Hid (∀ W A c, IntsAt W (.slice A v.length c) v → Calls Try.prog 62 #[.slice A v.length c] W fun e w' => e = .returned (.func (.func 73) #[] #[.pointer (some ⟨W.heap.size, 0, none⟩)]) ∧ w' = W.alloc (.cells #[.slice A v.length c] 24)) := Lib.hid fun W A c h => rotations62_any W _ v h
  refine (H62.out _ _ _ HV1.out).mono ?_
  rintro e w2 ⟨rfl, rfl⟩
  have hal : Below w1.heap.size w1 (w1.alloc (.cells #[.slice A1 v.length c1] 24)) := (Below.refl _ _).alloc (Nat.le_refl _) _
  have H61 := Lib.hid (callsIn_wide.1 (least61_in 0 (w1.alloc (.cells #[.slice A1 v.length c1] 24)) (.slice A1 v.length c1) A1 c1 w1.heap.size v v (heap_alloc_new w1 _) (HV1.out.below hal) (HV1.out.below hal) (by omega) HMC.out HMC.out))
  have HB2 := Lib.hid (HB1.out.trans (hal.mono HB1.out.size))
  have HV2 := Lib.hid (HV1.out.below hal)
  clear hal
  go_wp2_with fail
  refine H61.out.mono ?_
  rintro e w3 ⟨u3, rfl, hu3, hb3⟩
  have HB3 := Lib.hid (HB2.out.trans (hb3.mono HB2.out.size))
  have HV3 := Lib.hid (HV2.out.below hb3)
  have HU3 := Lib.hid hu3
  obtain ⟨A3, c3, rfl, -, -, -⟩ := hu3.open_
  clear hu3 hb3 H61
  go_wp2_with fail
  refine (HI.out _ _ HV3.out).mono ?_
  rintro e w4 ⟨A4, c4, rfl, ho, hb⟩
  rw [← HIE.out] at ho
  rw [← HIE.out]
  have HB4 := Lib.hid (HB3.out.trans (hb.mono HB3.out.size))
  have HU4 := Lib.hid (HU3.out.below hb)
  have HV4 := Lib.hid (OwnI.ints ho (Mild.fits HMI.out))
  clear ho hb
  generalize invW v = vi at *
  generalize bestTo v v v.length = b at *
  have H62' : Hid (∀ W A c, IntsAt W (.slice A vi.length c) vi → Calls Try.prog 62 #[.slice A vi.length c] W fun e w' => e = .returned (.func (.func 73) #[] #[.pointer (some ⟨W.heap.size, 0, none⟩)]) ∧ w' = W.alloc (.cells #[.slice A vi.length c] 24)) := Lib.hid fun W A c h => rotations62_any W _ vi h
  go_wp2_with fail
  refine (H62'.out _ _ _ HV4.out).mono ?_
  rintro e w5 ⟨rfl, rfl⟩
  have hal : Below w4.heap.size w4 (w4.alloc (.cells #[.slice A4 vi.length c4] 24)) := (Below.refl _ _).alloc (Nat.le_refl _) _
  have H61 := Lib.hid (callsIn_wide.1 (least61_in 0 (w4.alloc (.cells #[.slice A4 vi.length c4] 24)) (.slice A3 b.length c3) A4 c4 w4.heap.size vi b (heap_alloc_new w4 _) (HV4.out.below hal) (HU4.out.below hal) (by omega) HMI.out HMB.out))
  have HB5 := Lib.hid (HB4.out.trans (hal.mono HB4.out.size))
  clear hal
  go_wp2_with fail
  refine H61.out.mono ?_
  rintro e w6 ⟨u6, rfl, hu6, hb6⟩
  rw [← HE.out] at hu6
  have HB6 := Lib.hid (HB5.out.trans (hb6.mono HB5.out.size))
  have HU6 := Lib.hid hu6
  obtain ⟨A6, c6, rfl, -, -, -⟩ := hu6.open_
  clear hu6 hb6 H61
  go_wp2_with fail
  refine (clone71_any w6 _ R HU6.out (by omega)).mono ?_
  rintro e w7 ⟨A7, c7, rfl, ho, hb⟩
  have HO := Lib.hid ho
  have HB7 := Lib.hid (HB6.out.trans (hb.mono HB6.out.size))
  clear ho hb
  go_wp2_with fail
  go_ret
  exact ⟨_, _, rfl, owns_base HO.out HB6.out.size, HB7.out⟩
end Go.Proofs
namespace Go.Proofs
open Go.RowKit Go.Shelf Go.Lib Go.Sort Go.Proofs.Ct Go.Proofs.Tz
shelf_lay_g SlLaysF.n6 Slsf 6 at Try 63 as Try.sortW
def encV (vals : List Value) (i : Nat) : Value := vals.getD i (.slice none 0 0)
def cfW (xs : List (List Int)) (i j : Nat) : Int := cmpW (xs.getD i []) (xs.getD j [])
theorem swoW (xs : List (List Int)) : SWO (ltOf (cfW xs)) where
  irrefl i := by
    unfold ltOf cfW
    rw [cmpW_zero.2 rfl]
    rfl
  trans i j k h1 h2 := by
    unfold ltOf cfW at *
    rw [decide_eq_true_iff] at *
    exact cmpW_trans h1 h2
  ntrans i j k h1 h2 := by
    unfold ltOf cfW at *
    rw [decide_eq_false_iff_not] at *
    generalize xs.getD i [] = a at *
    generalize xs.getD j [] = b at *
    generalize xs.getD k [] = c at *
    intro h3
    have s1 := cmpW_swap a b
    have s2 := cmpW_swap b c
    rcases Int.lt_or_eq_of_le (show cmpW b a ≤ 0 by omega) with q1 | q1
    · have := cmpW_trans q1 h3
      omega
    · have e := cmpW_zero.1 q1
      subst e
      omega
theorem heap_sorted1 {α : Type} [Inhabited α] {enc : α → Value} {w : World} {g n : Nat} {os : Array Obj} {cur : Array Value} {e : TypeId} {fr : Nat × Nat} (F : Array α) (hb : w.heap[g]? = some (.cells cur e fr)) :
    (sortWorld enc w g 0 n F os).heap[g]? = some (.cells (putCells enc 0 F cur) e fr) := by
  have hg : g < w.heap.size := (Array.getElem?_eq_some_iff.1 hb).1
  unfold sortWorld
  rw [heap_grow_old _ _ (by simpa using hg)]
  simp [putRow, mapBlock, Sort.ahead, Array.getElem?_modify, hb, onCells]
theorem grownBy_sorted1 {α : Type} [Inhabited α] {enc : α → Value} {w : World} {g n : Nat} {os : Array Obj} (F : Array α) : w.grownBy (sortWorld enc w g 0 n F os) (some g) := by
  refine ⟨rfl, rfl, rfl, by simp [sortWorld], fun k hk hne => ?_⟩
  unfold sortWorld
  rw [heap_grow_old _ _ (by simpa using hk)]
  have : g ≠ k := fun e => hne (by rw [e])
  simp [putRow, mapBlock, Sort.ahead, Array.getElem?_modify, this]
theorem cmpLays46 {F : Nat → Prop} {w : World} {g : Nat} {vals : List Value} {xs : List (List Int)} (hr : RowsF F w vals xs) (hF : ∀ k, F k → k < w.heap.size ∧ k ≠ g) (hm : ∀ x ∈ xs, ∀ z ∈ x, Mild z) (size : Nat) : CmpLays1 Try.prog 46 #[] (encV vals) (cfW xs) g 0 size w := by
  intro m os dk _ i j
  have hI : ∀ i, IntsAt (sortWorld (encV vals) w g 0 m dk os) (encV vals i) (xs.getD i []) ∧ ∀ z ∈ xs.getD i [], Mild z := by
    intro i
    rcases Nat.lt_or_ge i xs.length with hl | hl
    · obtain ⟨u, hu, hx⟩ := hr.2 i hl
      refine ⟨?_, fun z hz => hm _ ?_ z hz⟩
      · unfold encV
        rw [List.getD_eq_getElem?_getD, hu]
        exact hx _ (Ag.grown (grownBy_sorted1 dk) fun k hk => ⟨(hF k hk).1, fun e => (hF k hk).2 (Option.some.inj e).symm⟩)
      · rw [List.getD_eq_getElem?_getD, List.getElem?_eq_getElem hl]
        exact List.getElem_mem hl
    · have e1 : xs.getD i [] = [] := by rw [List.getD_eq_getElem?_getD, List.getElem?_eq_none hl]; rfl
      have e2 : encV vals i = .slice none 0 0 := by unfold encV; rw [List.getD_eq_getElem?_getD, List.getElem?_eq_none (by rw [hr.1]; exact hl)]; rfl
      rw [e1, e2]
      exact ⟨⟨⟨none, 0, 0, rfl, rfl, Nat.le_refl _, by simp [maxLen], fun h => absurd h (by simp)⟩, fun z hz => by cases hz⟩, fun z hz => by cases hz⟩
  refine (cmp46_any _ _ _ _ _ (hI i).1 (hI j).1 (hI i).2 (hI j).2).mono ?_
  rintro e w' ⟨h1, q, os', h2⟩
  exact ⟨h1, q, os', h2⟩
theorem range_perm {n : Nat} {d : Array Nat} (h : PermIn 0 (Array.range n).size (Array.range n) d) : d.toList.Perm (List.range n) := by
  obtain ⟨h1, -, h3⟩ := h
  have e1 : (d.extract 0 (Array.range n).size).toList = d.toList := by rw [← h1, Array.extract_size]
  have e2 : ((Array.range n).extract 0 (Array.range n).size).toList = List.range n := by simp
  rw [e1, e2] at h3
  exact h3
theorem map_range_getD (xs : List (List Int)) : (List.range xs.length).map (fun i => xs.getD i []) = xs := by
  apply List.ext_getElem (by simp)
  intro i h1 h2
  simp [List.getD_eq_getElem?_getD, h2]
/-- the words in order -/
def Sorted (xs : List (List Int)) : Prop := xs.Pairwise fun a b => ¬ cmpW b a < 0
theorem sort63_some (base : Nat) (F : Nat → Prop) (w : World) (v : Value) (xs : List (List Int)) (h : OwnT 24 base F w v xs) (hn : xs ≠ []) (hF : ∀ k, F k → k < w.heap.size ∧ v.ownBlock ≠ some k) (hm : ∀ x ∈ xs, ∀ z ∈ x, Mild z) (hl : xs.length ≤ 1000000) :
    Calls Try.prog 63 #[v, .func (.func 46) #[] #[]] w fun e w' => e = .returned (.tuple #[]) ∧ ∃ ys, ys.Perm xs ∧ Sorted ys ∧ OwnT 24 base F w' v ys ∧ w.grownBy w' v.ownBlock := by
  obtain ⟨vals, ⟨hlen, ho⟩, hr⟩ := h
  rcases ho with ⟨-, e⟩ | ⟨g, cap, cur, rfl, hb, hC, h1, hmx, hs, ht⟩
  · exact absurd (List.eq_nil_of_length_eq_zero e) hn
  · have hg : g < w.heap.size := (Array.getElem?_eq_some_iff.1 hC).1
    have eg : ∀ args w, (callFunc 46 args).run Try.prog w = .ok (.enter 46 args) w := enters_of Try.func46 (by kernel_rfl) rfl
    have hvl : vals.length = xs.length := hr.1
    simp only [Nat.mul_one] at hs ht
    have hF' : ∀ k, F k → k < w.heap.size ∧ k ≠ g := fun k hk => ⟨(hF k hk).1, fun e => (hF k hk).2 (by subst e; rfl)⟩
    have hcell : ∀ j, j < xs.length → cur[j]? = some (encV vals j) := fun j hj => by
      have h5 : (cur.toList.take xs.length)[j]? = vals[j]? := by rw [ht]
      rw [List.getElem?_take, if_pos hj, Array.getElem?_toList, List.getElem?_eq_getElem (show j < vals.length by omega)] at h5
      rw [h5]
      unfold encV
      rw [List.getD_eq_getElem?_getD, List.getElem?_eq_getElem (show j < vals.length by omega)]
      rfl
    have hH : Holds (encV vals) w g 0 (Array.range xs.length) := by
      intro j hj
      have hj' : j < xs.length := by simpa using hj
      refine ⟨?_, by simp [World.frozen?, hC]⟩
      rw [Nat.zero_add, cell_of_row _ _ _ _ _ _ hC, hcell j hj']
      simp [hj']
    have h1c : OneCell (encV vals) := fun i => by
      rcases Nat.lt_or_ge i xs.length with hi | hi
      · obtain ⟨u, hu, hx⟩ := hr.2 i hi
        obtain ⟨A, c, rfl, -⟩ := hx.at_.open_
        unfold encV
        rw [List.getD_eq_getElem?_getD, hu]
        rfl
      · unfold encV
        rw [List.getD_eq_getElem?_getD, List.getElem?_eq_none (by omega)]
        rfl
    have hcon := Any.slices_SortFunc Try.sortW (encV vals) h1c (cfW xs) (swoW xs) 46 #[] g 0 cap (Array.range xs.length) w eg (cmpLays46 hr hF' hm _) hH hg (by simp; omega)
    have hcon2 : Calls Try.prog 63 #[.slice (some ⟨g, 0, none⟩) (Array.range xs.length).size cap, .func (.func 46) #[] #[]] w _ := hcon
    rw [Array.size_range] at hcon2
    refine hcon2.mono ?_
    rintro e w' ⟨rfl, d', n, os, hp, hsd, rfl⟩
    have hpr := range_perm (by simpa using hp)
    have hdl : d'.toList.length = xs.length := by rw [hpr.length_eq]; simp
    have hds : d'.size = xs.length := by simpa using hdl
    have hmem : ∀ i ∈ d'.toList, i < xs.length := fun i hi => by simpa using hpr.mem_iff.1 hi
    refine ⟨rfl, d'.toList.map (fun i => xs.getD i []), ?_, ?_, ?_, grownBy_sorted1 _⟩
    · have := hpr.map (fun i => xs.getD i [])
      rw [map_range_getD] at this
      exact this
    · unfold Sorted
      rw [List.pairwise_map, List.pairwise_iff_getElem]
      intro i j hi hj hij
      have hi' : i < d'.size := by simpa using hi
      have hj' : j < d'.size := by simpa using hj
      have h4 := hsd i j (Nat.zero_le _) hij (by omega)
      rw [getElem!_pos d' i hi', getElem!_pos d' j hj'] at h4
      have h5 : d'.toList[i] = d'[i] := by simp
      have h6 : d'.toList[j] = d'[j] := by simp
      rw [h5, h6]
      exact of_decide_eq_false h4
    · have hml : (d'.toList.map (fun i => xs.getD i [])).length = xs.length := by rw [List.length_map, hdl]
      refine ⟨d'.toList.map (encV vals), ⟨by rw [hml, List.length_map, hdl]; omega, .inr ⟨g, cap, putCells (encV vals) 0 d' cur, by rw [hml], hb, heap_sorted1 _ hC, by rw [hml]; exact h1, hmx, by simp [putCells, hs], ?_⟩⟩, by simp, ?_⟩
      · rw [hml, Nat.mul_one]
        apply List.ext_getElem?
        intro j
        by_cases hj : j < xs.length
        · have hjc : j < cur.size := by omega
          rw [List.getElem?_take, if_pos hj, Array.getElem?_toList]
          simp [putCells, hds, hj, hjc]
        · rw [List.getElem?_take_eq_none (by omega), List.getElem?_eq_none (by simp; omega)]
      · intro j hj
        rw [hml] at hj
        have hjd : j < d'.toList.length := by omega
        obtain ⟨u, hu, hx⟩ := hr.2 (d'.toList[j]) (hmem _ (List.getElem_mem hjd))
        refine ⟨u, ?_, ?_⟩
        · rw [List.getElem?_map, List.getElem?_eq_getElem hjd]
          simp only [Option.map_some]
          unfold encV
          rw [List.getD_eq_getElem?_getD, hu]
          rfl
        · rw [show (d'.toList.map (fun i => xs.getD i [])).getD j [] = xs.getD (d'.toList[j]) [] by rw [List.getD_eq_getElem?_getD, List.getElem?_map, List.getElem?_eq_getElem hjd]; rfl]
          exact hx.keep (Ag.grown (grownBy_sorted1 d') fun k hk => ⟨(hF' k hk).1, fun e => (hF' k hk).2 (Option.some.inj e).symm⟩)
end Go.Proofs
namespace Go.Proofs
open Go.RowKit Go.Shelf Go.Lib Go.Sort Go.Proofs.Ct Go.Proofs.Tz
theorem insertion78_nil (w : World) (A : Option Addr) (c : Nat) : Calls Try.prog 78 #[.slice A 0 c, .int .i64 0, .int .i64 0, .func (.func 46) #[] #[]] w fun e w' => e = .returned (.tuple #[]) ∧ ∃ q, w' = w.drewN q := by
  go_enter Try.func78, Try.ntmps78
  go_wp2_with fail
  go_loopw [8] (fun z wr => z = .int .i64 1 ∧ ∃ q, wr = w.drewN q) (fun _ _ => 0)
  case atStart => exact ⟨rfl, 0, rfl⟩
  case round =>
    obtain ⟨rfl, q, rfl⟩ := hrel
    go_wp2_with fail
    go_end0
    exact ⟨rfl, _, rfl⟩
theorem pdq74_nil (w : World) (A : Option Addr) (c : Nat) : Calls Try.prog 74 #[.slice A 0 c, .int .i64 0, .int .i64 0, .int .i64 0, .func (.func 46) #[] #[]] w fun e w' => e = .returned (.tuple #[]) ∧ ∃ q, w' = w.drewN q := by
  have HI := Lib.hid fun W => insertion78_nil W A c
  go_enter Try.func74, Try.ntmps74
  go_wp2_with fail
  go_loopw [1, 2] (fun za zb wr => za = .int .i64 0 ∧ zb = .int .i64 0 ∧ ∃ q, wr = w.drewN q) (fun _ _ _ => 0)
  case atStart => exact ⟨rfl, rfl, 0, rfl⟩
  case round =>
    obtain ⟨rfl, rfl, q, rfl⟩ := hrel
    go_wp2_with (go_at_call 78; (refine (HI.out _).mono ?_); rintro e w' ⟨rfl, q, rfl⟩)
    exact bodyPost_ret (v := .tuple #[]) (results_none rfl _ _ _) rfl ⟨rfl, by first | exact ⟨_, rfl⟩ | exact ex_drewN⟩
theorem sort63_nil (w : World) (A : Option Addr) (c : Nat) : Calls Try.prog 63 #[.slice A 0 c, .func (.func 46) #[] #[]] w fun e w' => e = .returned (.tuple #[]) ∧ ∃ q, w' = w.drewN q := by
  have hb : Calls Try.prog 75 #[.int .u64 0] w fun e w' => e = .returned (.int .i64 0) ∧ w' = w := Any.bits_Len (SlLaysF0.n15.bits (P := Try.prog) (ρ := Try.sortW_ren) { Try.sortW with }) 0 w (by omega) (by omega)
  have HB := Lib.hid hb
  have HP := Lib.hid fun W => pdq74_nil W A c
  clear hb
  go_enter Try.func63, Try.ntmps63
  go_wp2_with (first
    | (go_at_call 75; (refine HB.out.mono ?_); rintro e w' ⟨rfl, rfl⟩)
    | (go_at_call 74; (refine (HP.out _).mono ?_); rintro e w' ⟨rfl, q, rfl⟩))
  go_end0
  exact ⟨rfl, _, rfl⟩
theorem grownBy_drewN {w : World} (q : Nat) (r : Option Nat) : w.grownBy (w.drewN q) r := ⟨rfl, rfl, rfl, Nat.le_refl _, fun _ _ _ => rfl⟩
theorem sort63_any (base : Nat) (F : Nat → Prop) (w : World) (A : Option Addr) (c : Nat) (xs : List (List Int)) (h : OwnT 24 base F w (.slice A xs.length c) xs) (hF : ∀ k, F k → k < w.heap.size ∧ (Value.slice A xs.length c).ownBlock ≠ some k) (hm : ∀ x ∈ xs, ∀ z ∈ x, Mild z) (hl : xs.length ≤ 1000000) :
    Calls Try.prog 63 #[.slice A xs.length c, .func (.func 46) #[] #[]] w fun e w' => e = .returned (.tuple #[]) ∧ ∃ ys, ys.Perm xs ∧ Sorted ys ∧ OwnT 24 base F w' (.slice A xs.length c) ys ∧ w.grownBy w' (Value.slice A xs.length c).ownBlock := by
  by_cases hn : xs = []
  · subst hn
    obtain ⟨vals, ⟨hlen, ho⟩, hr⟩ := h
    refine (sort63_nil w A c).mono fun e w' ⟨h1, q, h2⟩ => ⟨h1, [], List.Perm.refl _, List.Pairwise.nil, ⟨vals, ⟨hlen, ?_⟩, ?_⟩, ?_⟩
    · rw [h2]; exact ho
    · rw [h2]; exact hr.keep (fun _ _ => rfl) fun _ h => h
    · rw [h2]; exact grownBy_drewN _ _
  · exact sort63_some base F w _ xs h hn hF hm hl
theorem equal47_any (w : World) (va vb : Value) (x y : List Int) (ha : IntsAt w va x) (hb : IntsAt w vb y) :
    Calls Try.prog 47 #[va, vb] w fun e w' => e = .returned (.bool (decide (x = y))) ∧ ∃ q, w' = w.drewN q := by
  have HE := Lib.hid (equal143_any w va vb x y ha hb)
  obtain ⟨A, c, rfl, -, -, -⟩ := ha.open_
  obtain ⟨B, d, rfl, -, -, -⟩ := hb.open_
  clear ha hb
  generalize decide (x = y) = t at *
  go_enter Try.func47, Try.ntmps47
  go_wp2_with (go_at_call 69; (refine HE.out.mono ?_); rintro e w' ⟨rfl, q, rfl⟩)
  go_ret
  exact ⟨rfl, _, rfl⟩
end Go.Proofs
