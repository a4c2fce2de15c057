/- word.Cyclic: the cyclically reduced core; word.Invert, slices.Concat, word.Mul; cayleyref02.Invert and Mul; The reference's word.Cmp; The reference's word.Check, Cyclic. -/
import Derived.Test.YtmmbmhjdnlmedaaGreatLoCS3
import Derived.Test.YtmmbmhjdnlmedaaGreatLoCS4
import Derived.Test.YtmmbmhjdnlmedaaGreatLoCS2
import Derived.Deep.MidRow
import Derived.Deep.QuietTactic
import Derived.BigQuiet
namespace Go.Proofs
open Go.RowKit Go.Shelf Go.Lib Go.Sort Go.Proofs.Ct Go.Proofs.Tz
/-! slices of words and of lists of words -/
theorem run_sl_lo {t : TypeId} (hu : Tryz.prog.underlying t = some (.slice (Tryz.prog.elem t))) (hs : ∀ w, (Go.sizeOf (Tryz.prog.elem t)).run Tryz.prog w = .ok 1 w) {o : Oper} {a : Act} {w : World} (x y : Operand) (A : Option Addr) (n c k : Nat) (ho : o.op = .slice t x (some y) none none) (hx : a.eval x = .slice A n c) (hy : a.eval y = .int .i64 (k : Int)) (hk : k ≤ n) : (execOp a.eval o).run Tryz.prog w = .ok (.value (sliced A k n c 1)) w := by
  have hs := hs w
  unfold execOp
  simp only [ho, hx, hy, Option.map_none, Option.map_some, Sem.run_bind, run_sliceAt_slice w t _ _ _ _ hu, run_slice_l w t A n c hu .i64 (k : Int) (by omega) (by omega)]
  simp [hs]
theorem run_sl_lohi {t : TypeId} (hu : Tryz.prog.underlying t = some (.slice (Tryz.prog.elem t))) (hs : ∀ w, (Go.sizeOf (Tryz.prog.elem t)).run Tryz.prog w = .ok 1 w) {o : Oper} {a : Act} {w : World} (x y z : Operand) (A : Option Addr) (n c k h : Nat) (ho : o.op = .slice t x (some y) (some z) none) (hx : a.eval x = .slice A n c) (hy : a.eval y = .int .i64 (k : Int)) (hz : a.eval z = .int .i64 (h : Int)) (hk : k ≤ h) (hc : h ≤ c) : (execOp a.eval o).run Tryz.prog w = .ok (.value (sliced A k h c 1)) w := by
  have hs := hs w
  unfold execOp
  simp only [ho, hx, hy, hz, Option.map_none, Option.map_some, Sem.run_bind, run_sliceAt_slice w t _ _ _ _ hu, run_slice_lh w t A n c hu .i64 .i64 (k : Int) (h : Int) (by omega) (by omega) (by omega)]
  simp [hs]
theorem under24w : Tryz.prog.underlying 36 = some (.slice (Tryz.prog.elem 36)) := by kernel_rfl
theorem under25w : Tryz.prog.underlying 22 = some (.slice (Tryz.prog.elem 22)) := by kernel_rfl
theorem size24w (w : World) : (Go.sizeOf (Tryz.prog.elem 36)).run Tryz.prog w = .ok 1 w := by kernel_rfl
theorem size25w (w : World) : (Go.sizeOf (Tryz.prog.elem 22)).run Tryz.prog w = .ok 1 w := by kernel_rfl
theorem ints_cut {w : World} {A : Option Addr} {c k h : Nat} {l : List Int} (hI : IntsAt w (.slice A l.length c) l) (hk : k ≤ h) (hh : h ≤ l.length) : ∃ A', sliced A k h c 1 = .slice A' (h - k) (c - k) ∧ IntsAt w (.slice A' (h - k) (c - k)) ((l.take h).drop k) := by
  obtain ⟨⟨A0, n, cap, e, h1, h2, h3, h4⟩, hf⟩ := hI
  obtain ⟨rfl, rfl, rfl⟩ := Value.slice.inj e
  refine ⟨_, rfl, ⟨_, _, _, rfl, by simp [ints]; omega, by omega, by omega, fun hp => ?_⟩, fun y hy => hf y (List.mem_of_mem_take (List.mem_of_mem_drop hy))⟩
  obtain ⟨b, off, rfl, hr⟩ := h4 (by omega)
  refine ⟨b, off + k, ?_, fun j v hj => ?_⟩
  · rw [if_neg (by omega), Nat.mul_one]
    exact congrArg some (Addr.add_mid b off k)
  · have hj' : (ints l)[k + j]? = some v := by
      simp only [ints, List.getElem?_map, List.getElem?_drop, List.getElem?_take] at hj ⊢
      split at hj
      · exact hj
      · simp at hj
    have := hr (k + j) v hj'
    rwa [show off + k + j = off + (k + j) by omega]
def lenV : Value → Nat
  | .slice _ n _ => n
  | _ => 0
/-- a slice of the call's own memory -/
def OwnPost (x : List Int) (w : World) (e : Ending) (w' : World) : Prop := ∃ A c, e = .returned (.slice A x.length c) ∧ OwnI w.heap.size w' (.slice A x.length c) x ∧ Below w.heap.size w w'
theorem OwnPost.base {x : List Int} {w w1 : World} {e : Ending} {w' : World} (hb : Below w.heap.size w w1) (h : OwnPost x w1 e w') : OwnPost x w e w' := by
  obtain ⟨A, c, h1, h2, h3⟩ := h
  exact ⟨A, c, h1, owns_base h2 hb.size, hb.trans (h3.mono hb.size)⟩
set_option maxRecDepth 100000 in
set_option maxHeartbeats 1000000 in
theorem cyclic60_any (w : World) (v : Value) (x : List Int) (h : IntsAt w v x) (hm : ∀ z ∈ x, Mild z) (hl : x.length ≤ 8000000) : Calls Tryz.prog 90 #[v] w (OwnPost (cyc x) w) := by
  have HRED := Lib.hid (reduce99_any w v x h hm hl)
  have hmr : ∀ z ∈ red x, Mild z := fun z hz => hm z (red_mem hz)
  have hlr := red_length x
  obtain ⟨A0, c0, rfl, -, -, -⟩ := h.open_
  have HC : Hid (cyc x = cycTo x.length (red x)) := Lib.hid rfl
  have HM := Lib.hid hmr
  generalize hR : cyc x = R at *
  have hRl : R.length ≤ x.length := by rw [← hR]; exact (cyc_sub x).2
  clear h hm hR hmr
  unfold OwnPost
  go_enter Tryz.func90, Tryz.ntmps90
  go_wp2_with fail
  refine HRED.out.mono ?_
  rintro e w1 ⟨A, c, rfl, ho, hb⟩
  have HO := Lib.hid (OwnI.ints ho (Mild.fits HM.out))
  have HB := Lib.hid hb
  clear ho hb HRED
  generalize red x = r at *
  go_wp2_with fail
  go_loopw [0] (fun z wr => ∃ (u : List Int) (n A c : _), z = .slice A u.length c ∧ Hid (IntsAt w1 (.slice A u.length c) u ∧ (∀ y ∈ u, Mild y) ∧ R = cycTo n u) ∧ u.length ≤ n ∧ u.length ≤ 8000000 ∧ ∃ q, wr = w1.drewN q) (fun z _ => lenV z)
  case atStart => exact ⟨r, x.length, A, c, rfl, Lib.hid ⟨HO.out, HM.out, HC.out⟩, hlr, by omega, 0, rfl⟩
  case round =>
    obtain ⟨u, n, A, c, rfl, HU, hun, hu8, q, rfl⟩ := hrel
    have hu0 : (0 : Int) ≤ (u.length : Int) := Int.natCast_nonneg _
    have hu1 : (u.length : Int) ≤ 8000000 := by omega
    by_cases h1 : 1 < u.length
    · have h1' : 1 < (u.length : Int) := by omega
      obtain ⟨m, hm⟩ : ∃ m, u.length = m + 1 := ⟨u.length - 1, by omega⟩
      obtain ⟨n', rfl⟩ : ∃ n', n = n' + 1 := ⟨n - 1, by omega⟩
      obtain ⟨A', c', e1, -, -, hc⟩ := HU.out.1.open_
      injection e1 with e1 e2 e3
      subst e1 e3
      obtain ⟨b, o, rfl, hcc⟩ := hc (by omega)
      have hc0 : w1.cell? ⟨b, o + 0, none⟩ = some (.int .i64 (u.getD 0 0)) := hcc 0 (by omega)
      rw [Nat.add_zero] at hc0
      have hcm := hcc m (by omega)
      have HOP := Lib.hid fun W => opp134_any W (u.getD 0 0) (u.getD m 0) (Mild.at_ HU.out.2.1 0) (Mild.at_ HU.out.2.1 m)
      have HSTEP : Hid (cycTo (n' + 1) u = if opp (u.getD 0 0) (u.getD m 0) = true then cycTo n' ((u.drop 1).take (u.length - 2)) else u) := Lib.hid (by
        rw [cycTo, show u.length - 1 = m by omega]
        by_cases ho : opp (u.getD 0 0) (u.getD m 0) = true
        · rw [if_pos ⟨h1, ho⟩, if_pos ho]
        · rw [if_neg (fun h => ho h.2), if_neg ho])
      obtain ⟨A2, hs, hi⟩ := ints_cut (k := 1) (h := m) HU.out.1 (by omega) (by omega)
      have hl2 : ((u.take m).drop 1).length = m - 1 := by rw [List.length_drop, List.length_take]; omega
      have HSL := Lib.hid hs
      have HI2 := Lib.hid hi
      have HL2 := Lib.hid hl2
      have hcap : m ≤ c := by
        obtain ⟨A', c', e1, h5, -, -⟩ := HU.out.1.open_
        injection e1 with e1 e2 e3
        omega
      have hEQ : (u.drop 1).take (u.length - 2) = (u.take m).drop 1 := by rw [List.drop_take, hm]; congr 1
      have HEQ := Lib.hid hEQ
      have HM' := Lib.hid hm
      have hmI : (u.length : Int) - 1 = (m : Int) := by omega
      have hm0 : (0 : Int) ≤ (m : Int) := Int.natCast_nonneg _
      have hm1 : 1 ≤ (m : Int) := by omega
      have hmlt : (m : Int) < (u.length : Int) := by omega
      have hmlt' : m < u.length := by omega
      have h0lt : (0 : Int) < (u.length : Int) := by omega
      have hmw : IntKind.i64.wrap (m : Int) = (m : Int) := by simp [IntKind.wrap, IntKind.bits, IntKind.signed]; omega
      have h0lt' : 0 < u.length := by omega
      clear hcc hc e2 h1 hs hi hl2 hEQ hm
      generalize u.getD 0 0 = y at *
      generalize u.getD m 0 = z at *
      have hd : decide (1 < (u.length : Int)) = true := decide_eq_true (by omega)
      cases ho : opp y z with
      | true =>
        rw [ho] at HOP
        have HS2 : Hid (cycTo (n' + 1) u = cycTo n' ((u.take m).drop 1)) := Lib.hid (by rw [HSTEP.out, ho, if_pos rfl, HEQ.out])
        go_wp2_with fail
        go_quiet ((go_at_call 108; exact quiet_add_left (HOP.out _)))
        go_wp2_with ((with_reducible refine wpList_sel 24 ?_); refine wpList_val rfl (run_sl_lohi under24w size24w (.tmp 20) (.const (.int .i64 1)) (.tmp 23) _ _ _ 1 m rfl rfl rfl rfl (by omega) hcap) ?_)
        have hSL : sliced (some ⟨b, o, none⟩) 1 m c 1 = .slice (if c = 1 then some ⟨b, o, none⟩ else some ⟨b, o + 1, none⟩) (m - 1) (c - 1) := by
          unfold sliced
          have : (c - 1 = 0) ↔ c = 1 := by omega
          simp [Addr.add_mid]
        rw [HSL.out] at hSL
        injection hSL with hA
        rw [← hA]
        go_roundw
        case rel => exact ⟨(u.take m).drop 1, n', A2, c - 1, by rw [HL2.out], Lib.hid ⟨by rw [HL2.out]; exact HI2.out, fun y hy => HU.out.2.1 y (List.mem_of_mem_take (List.mem_of_mem_drop hy)), by rw [HU.out.2.2, HS2.out]⟩, by have := HL2.out; omega, by have := HL2.out; omega, _, rfl⟩
        case measure => simp [lenV]; omega
      | false =>
        rw [ho] at HOP
        have HS2 : Hid (R = u) := Lib.hid (by rw [HU.out.2.2, HSTEP.out, ho, if_neg (by simp)])
        have HCL : Hid (∀ r, Calls Tryz.prog 69 #[.slice (some ⟨b, o, none⟩) u.length c] (w1.drewN r) fun e w' => ∃ A9 c9, e = .returned (.slice A9 u.length c9) ∧ OwnI w1.heap.size w' (.slice A9 u.length c9) u ∧ Below w1.heap.size w1 w') := Lib.hid fun r => (clone71_any (w1.drewN r) _ u (HU.out.1.drewN r) (by omega)).mono fun e w' ⟨A9, c9, h3, h4, h5⟩ => ⟨A9, c9, h3, h4, (below_drewN (Below.refl _ _) r).trans h5⟩
        go_wp2_with fail
        go_quiet ((go_at_call 108; exact quiet_add_left (HOP.out _)))
        go_wp2_with (first
          | (go_at_call 69; (refine (HCL.out _).mono ?_); rintro e w' ⟨A9, c9, rfl, ho, hb⟩))
        go_ret
        have := HS2.out
        subst this
        exact ⟨_, _, rfl, owns_base ho HB.out.size, HB.out.trans (hb.mono HB.out.size)⟩
    · have h1' : (u.length : Int) ≤ 1 := by omega
      have HE : Hid (R = u) := Lib.hid (by
        rw [HU.out.2.2]
        cases n with
        | zero => rfl
        | succ n => rw [cycTo, if_neg (fun h => h1 h.1)])
      have hd : decide (1 < (u.length : Int)) = false := decide_eq_false (by omega)
      have HCL : Hid (∀ r, Calls Tryz.prog 69 #[.slice A u.length c] (w1.drewN r) fun e w' => ∃ A9 c9, e = .returned (.slice A9 u.length c9) ∧ OwnI w1.heap.size w' (.slice A9 u.length c9) u ∧ Below w1.heap.size w1 w') := Lib.hid fun r => (clone71_any (w1.drewN r) (.slice A u.length c) u (HU.out.1.drewN r) (by omega)).mono fun e w' ⟨A9, c9, h3, h4, h5⟩ => ⟨A9, c9, h3, h4, (below_drewN (Below.refl _ _) r).trans h5⟩
      clear h1 h1'
      go_wp2_with fail
      go_quiet (fail)
      go_wp2_with (first
        | (go_at_call 69; (refine (HCL.out _).mono ?_); rintro e w' ⟨A9, c9, rfl, ho, hb⟩))
      go_ret
      have := HE.out
      subst this
      exact ⟨_, _, rfl, owns_base ho HB.out.size, HB.out.trans (hb.mono HB.out.size)⟩
end Go.Proofs
namespace Go.Proofs
open Go.RowKit Go.Shelf Go.Proofs.Ct
theorem RedPost.base {x : List Int} {w w1 : World} {e : Ending} {w' : World} (hb : Below w.heap.size w w1) (h : RedPost x w1 e w') : RedPost x w e w' := by
  obtain ⟨A, c, h1, h2, h3⟩ := h
  exact ⟨A, c, h1, owns_base h2 hb.size, hb.trans (h3.mono hb.size)⟩
set_option maxRecDepth 100000 in
theorem invert72_any (w : World) (v : Value) (x : List Int) (h : IntsAt w v x) (hm : ∀ z ∈ x, Mild z) (hl : x.length ≤ 8000000) : Calls Tryz.prog 29 #[v] w (RedPost (inv x) w) := by
  have HC := Lib.hid (turned116_any w v x h hm hl)
  have HM := Lib.hid (mild_inv hm)
  have HL : Hid ((inv x).length ≤ 8000000) := Lib.hid (by rw [length_inv]; exact hl)
  clear h hm hl
  go_enter Tryz.func29, Tryz.ntmps29
  go_wp2_with (first
    | (go_at_call 68
       (refine HC.out.mono ?_)
       rintro e w1 ⟨⟨u, rfl, hu⟩, hb⟩
       have HR := Lib.hid (reduce99_any w1 u (inv x) hu HM.out HL.out)
       have HB := Lib.hid hb
       clear hu hb)
    | (go_at_call 66
       (refine HR.out.mono ?_)
       rintro e w2 ⟨A, c, rfl, ho, hb⟩
       have HO := Lib.hid ho
       have HB2 := Lib.hid hb
       clear ho hb))
  go_ret
  exact RedPost.base HB.out ⟨A, c, rfl, HO.out, HB2.out⟩
theorem run_append_zeros (w : World) (n : Nat) (h0 : 0 < n) (hn : n ≤ 9000000) :
    (Builtin.append_ #[36, 3] 36 #[.slice none 0 0, .int .i64 (n : Int)]).run Tryz.prog w =
      .ok (.slice (some ⟨w.heap.size, 0, none⟩) n (grownCap w n 0 3)) (w.drew.alloc (.cells (Builtin.zeroCells #[.int .i64 0] n ++ Builtin.zeroCells #[.int .i64 0] (grownCap w n 0 3 - n)) 3)) := by
  obtain ⟨i, hi, hz, hs, hby⟩ := info3p
  have hwr : IntKind.i64.wrap (n : Int) = n := IntWalk.i64_in _ (by omega)
  have hn0 : n ≠ 0 := by omega
  have h48 : ¬ (281474976710656 < Builtin.nextslicecap n 0 * i.bytes) := by rw [nextslicecap_zero h0, hby]; omega
  have h48' : ¬ ((281474976710656 : Int) < (n : Int) * (i.bytes : Int)) := by rw [hby]; omega
  have h63' : ¬ (9223372036854775807 < (n : Int)) := by omega
  have hneg : ¬ ((n : Int) < 0) := by omega
  simp [Builtin.append_, run_underlying Tryz.underlying36, run_underlying Tryz.underlying3, sizeOf, typeInfo, zeroValue, hi, hz, hs, asInt, asIntOf, hwr, hneg, h48', hn0, h48, h63', Question.forced, run_firstCells_none, newRow, grownCap, Value.cells]
theorem r_app2 {o : Oper} {a : Act} {w w' : World} (s x : Operand) (t u : TypeId) {sv xv v' : Value} (ho : o.op = .call { callee := .builtin .append, args := #[s, x], argTypes := #[t, u] }) (hs : a.eval s = sv) (hx : a.eval x = xv)
    (hr : (Builtin.append_ #[t, u] o.type #[sv, xv]).run Tryz.prog w = .ok v' w') : (execOp a.eval o).run Tryz.prog w = .ok (.value v') w' := by
  unfold execOp
  simp only [ho, resolve, invoke, builtin, Sem.run_bind, Sem.run_pure, Result.andThen_ok, List.map_toArray, List.map_cons, List.map_nil, hs, hx, hr]
def GrowPost (w : World) (e : Ending) (w' : World) : Prop := ∃ A c, e = .returned (.slice A 0 c) ∧ OwnI w.heap.size w' (.slice A 0 c) [] ∧ Below w.heap.size w w'
set_option maxRecDepth 100000 in
theorem grow135_any (w : World) (n : Nat) (hn : n ≤ 9000000) : Calls Tryz.prog 109 #[.slice none 0 0, .int .i64 (n : Int)] w (GrowPost w) := by
  have hn0 : (0 : Int) ≤ (n : Int) := Int.natCast_nonneg _
  have hn1 : (n : Int) ≤ 9000000 := by omega
  by_cases h0 : n = 0
  · subst h0
    go_enter Tryz.func109, Tryz.ntmps109
    go_wp2_with fail
    go_ret
    exact ⟨none, 0, rfl, World.ownsRow_nil _ _ _ _, Below.refl _ _⟩
  · have hpos : (0 : Int) < (n : Int) := by omega
    have hr := run_append_zeros w n (by omega) hn
    have hcm := grownCap_le_maxLen w n 0 3 (by unfold maxLen; omega)
    have hcg := grownCap_ge w n 0 3
    have hsz : (Builtin.zeroCells #[Value.int .i64 0] n ++ Builtin.zeroCells #[Value.int .i64 0] (grownCap w n 0 3 - n)).size = grownCap w n 0 3 := by
      simp [size_zeroCells]; omega
    have hnew := heap_alloc_new w.drew (.cells (Builtin.zeroCells #[Value.int .i64 0] n ++ Builtin.zeroCells #[Value.int .i64 0] (grownCap w n 0 3 - n)) 3)
    have hbel : Below w.heap.size w (w.drew.alloc (.cells (Builtin.zeroCells #[Value.int .i64 0] n ++ Builtin.zeroCells #[Value.int .i64 0] (grownCap w n 0 3 - n)) 3)) := (below_drewN (Below.refl w.heap.size w) 1).alloc (Nat.le_refl _) _
    generalize Builtin.zeroCells #[Value.int .i64 0] n ++ Builtin.zeroCells #[Value.int .i64 0] (grownCap w n 0 3 - n) = C at *
    generalize grownCap w n 0 3 = cap at *
    have hown : OwnI w.heap.size (w.drew.alloc (.cells C 3)) (.slice (some ⟨w.heap.size, 0, none⟩) 0 cap) [] := ⟨rfl, .inr ⟨w.heap.size, cap, C, rfl, Nat.le_refl _, hnew, Nat.zero_le _, hcm, by omega, by simp [ints]⟩⟩
    generalize w.drew.alloc (.cells C 3) = W at *
    have hcm' : cap ≤ 9223372036854775807 := by unfold maxLen at hcm; exact hcm
    have hcg' : (n : Int) ≤ (cap : Int) := by omega
    have HR := Lib.hid hr
    have HO := Lib.hid hown
    have HB := Lib.hid hbel
    clear hr hown hbel hnew hsz hcm
    go_enter Tryz.func109, Tryz.ntmps109
    go_wp2_with ((with_reducible refine wpList_sel 22 ?_); refine wpList_val rfl (r_app2 (.tmp 20) (.tmp 21) 36 3 rfl rfl rfl HR.out) ?_)
    go_ret
    exact ⟨_, cap, rfl, HO.out, HB.out⟩
/-- the lists before the k-th, one after the other -/
def flatTo (xs : List (List Int)) (k : Nat) : List Int := foldTo (fun k l => l ++ xs.getD k []) k []
def sumTo (xs : List (List Int)) (k : Nat) : Nat := foldTo (fun k l => l + (xs.getD k []).length) k 0
theorem flatTo_length (xs : List (List Int)) : ∀ k, (flatTo xs k).length = sumTo xs k
  | 0 => rfl
  | k + 1 => by
    show (flatTo xs k ++ xs.getD k []).length = sumTo xs k + (xs.getD k []).length
    rw [List.length_append, flatTo_length xs k]
theorem sumTo_mono (xs : List (List Int)) {k m : Nat} (h : k ≤ m) : sumTo xs k ≤ sumTo xs m := by
  obtain ⟨d, rfl⟩ := Nat.exists_eq_add_of_le h
  clear h
  induction d with
  | zero => exact Nat.le_refl _
  | succ d ih => exact Nat.le_trans ih (Nat.le_add_right _ _)
def CatPost (x : List Int) (w : World) (e : Ending) (w' : World) : Prop := ∃ A c, e = .returned (.slice A x.length c) ∧ OwnI w.heap.size w' (.slice A x.length c) x ∧ Below w.heap.size w w'
set_option maxRecDepth 100000 in
set_option maxHeartbeats 1000000 in
theorem concat100_any (w : World) (v : Value) (xs : List (List Int)) (h : Tab w v xs) (hl : sumTo xs xs.length ≤ 9000000) : Calls Tryz.prog 67 #[v] w (CatPost (flatTo xs xs.length) w) := by
  obtain ⟨A0, c0, rfl, hc1, hc2, hc⟩ := h.open_
  have HC := Lib.hid hc
  clear hc h
  have hx0 : (0 : Int) ≤ (xs.length : Int) := Int.natCast_nonneg _
  go_enter Tryz.func67, Tryz.ntmps67
  go_wp2_with fail
  go_loop [3, 11] (fun so i => ∃ k n : Nat, i = .int .i64 k ∧ k ≤ xs.length ∧ so = .int .i64 n ∧ Hid (n = sumTo xs k)) (fun _ i => xs.length - (intOf i).toNat)
  case atStart => exact ⟨0, 0, rfl, by omega, rfl, Lib.hid rfl⟩
  case round =>
    obtain ⟨k, n, rfl, hk, rfl, HN⟩ := hrel
    have hk0 : (0 : Int) ≤ (k : Int) := Int.natCast_nonneg _
    have hn0 : (0 : Int) ≤ (n : Int) := Int.natCast_nonneg _
    by_cases hlt : k < xs.length
    · have hlt' : (k : Int) < (xs.length : Int) := by omega
      obtain ⟨b, o, rfl, hcc⟩ := HC.out (by omega)
      obtain ⟨u, hu, hI⟩ := hcc k hlt
      obtain ⟨A5, c5, rfl, h1, h2, h3⟩ := hI.open_
      have hst : sumTo xs (k + 1) = sumTo xs k + (xs.getD k []).length := rfl
      have hmo := sumTo_mono xs (k := k + 1) (m := xs.length) (by omega)
      have hb : (n : Int) + ((xs.getD k []).length : Int) ≤ 9000000 := by have := HN.out; omega
      have HN2 : Hid (n + (xs.getD k []).length = sumTo xs (k + 1)) := Lib.hid (by rw [hst, HN.out])
      clear hcc hI h3 hst hmo
      generalize (xs.getD k []).length = q at *
      have hq0 : (0 : Int) ≤ (q : Int) := Int.natCast_nonneg _
      go_wp2_with fail
      go_round
      case rel => exact ⟨k + 1, n + q, by go_num, by omega, by go_num, HN2⟩
      case measure => simp [intOf]; omega
    · obtain rfl : k = xs.length := by omega
      have HG := Lib.hid (grow135_any w n (by have := HN.out; omega))
      go_wp2_with (go_at_call 109; (refine HG.out.mono ?_); rintro e w1 ⟨A1, c1, rfl, ho, hb⟩; have HO := Lib.hid ho; have HB := Lib.hid hb; clear ho hb)
      go_loopw [6, 27] (fun so i wr => ∃ k n : Nat, i = .int .i64 k ∧ k ≤ xs.length ∧ Hid (n = (flatTo xs k).length) ∧ ∃ A c, so = .slice A n c ∧ Hid (OwnI w.heap.size wr so (flatTo xs k) ∧ Below w.heap.size w wr)) (fun _ i _ => xs.length - (intOf i).toNat)
      case atStart => exact ⟨0, 0, rfl, by omega, Lib.hid rfl, _, _, rfl, Lib.hid ⟨HO.out, HB.out⟩⟩
      case round =>
        clear HO HB HG HN hn0 hk0
        obtain ⟨k, n, rfl, hk, HN, A, c, rfl, HS⟩ := hrel
        have hk0 : (0 : Int) ≤ (k : Int) := Int.natCast_nonneg _
        by_cases hlt : k < xs.length
        · have hlt' : (k : Int) < (xs.length : Int) := by omega
          obtain ⟨b, o, rfl, hcc⟩ := HC.out (by omega)
          obtain ⟨u, hu, hI⟩ := hcc k hlt
          have hu' := (HS.out.2.cell (p := ⟨b, o + k, none⟩) (World.block_lt_of_cell? w _ hu)).trans hu
          have hmo := sumTo_mono xs (k := k + 1) (m := xs.length) (by omega)
          have hst : sumTo xs (k + 1) = sumTo xs k + (xs.getD k []).length := rfl
          have hfl := flatTo_length xs k
          obtain ⟨A', c', w', hr, ho, hg, -⟩ := run_append_ints 36 36 Tryz.underlying36 wr w.heap.size (.slice A n c) u (flatTo xs k) (xs.getD k []) HS.out.1 (hI.below HS.out.2) (by omega) (by omega) HS.out.2.size
          have hs2 : flatTo xs k ++ xs.getD k [] = flatTo xs (k + 1) := rfl
          rw [hs2] at hr ho
          have HR := Lib.hid hr
          have HS2 : Hid (OwnI w.heap.size w' (.slice A' (flatTo xs (k + 1)).length c') (flatTo xs (k + 1)) ∧ Below w.heap.size w w') := Lib.hid ⟨ho, HS.out.2.grown hg HS.out.2.size (fun r hr => (owns_block HS.out.1 r hr).1)⟩
          clear hcc hu hI hmo hst hfl hr ho hg hs2
          go_wp2_with ((with_reducible refine wpList_sel 33 ?_); refine wpList_val rfl (r_app (.tmp 31) (.tmp 32) 36 rfl rfl rfl HR.out) ?_)
          go_roundw
          case rel => exact ⟨k + 1, _, by go_num, by omega, Lib.hid rfl, _, _, rfl, HS2⟩
          case measure => simp [intOf]; omega
        · obtain rfl : k = xs.length := by omega
          go_wp2_with fail
          go_ret
          exact ⟨A, c, by rw [← HN.out]; rfl, by rw [← HN.out]; exact HS.out.1, HS.out.2⟩
theorem tab_two (w : World) (u v : Value) (x y : List Int) (hu : IntsAt w u x) (hv : IntsAt w v y) {e : TypeId} : Tab (w.alloc (.cells #[u, v] e)) (.slice (some ⟨w.heap.size, 0, none⟩) 2 2) [x, y] := by
  have hb : Below w.heap.size w (w.alloc (.cells #[u, v] e)) := (Below.refl _ _).alloc (Nat.le_refl _) _
  refine ⟨[u, v], ⟨_, 2, 2, rfl, rfl, Nat.le_refl _, by simp [maxLen], fun _ => ⟨w.heap.size, 0, rfl, fun j z hz => ?_⟩⟩, rfl, fun i hi => ?_⟩
  · rw [cell_of_row _ _ _ _ _ _ (heap_alloc_new w _), Nat.zero_add]
    simpa using hz
  · have : i = 0 ∨ i = 1 := by simp at hi; omega
    rcases this with rfl | rfl
    · exact ⟨u, rfl, hu.below hb⟩
    · exact ⟨v, rfl, hv.below hb⟩
set_option maxRecDepth 100000 in
theorem mul41_any (w : World) (u v : Value) (x y : List Int) (hu : IntsAt w u x) (hv : IntsAt w v y) (hmx : ∀ z ∈ x, Mild z) (hmy : ∀ z ∈ y, Mild z) (hl : x.length + y.length ≤ 8000000) : Calls Tryz.prog 28 #[u, v] w (RedPost (x ++ y) w) := by
  obtain ⟨A0, c0, rfl, h1, h2, h3⟩ := hu.open_
  obtain ⟨A1, c1, rfl, k1, k2, k3⟩ := hv.open_
  clear h3 k3
  have hb : Below w.heap.size w (w.alloc (.cells #[.slice A0 x.length c0, .slice A1 y.length c1] 36)) := (Below.refl _ _).alloc (Nat.le_refl _) _
  have hcat := concat100_any _ _ [x, y] (tab_two w _ _ x y hu hv (e := 36)) (by simp [sumTo, foldTo]; omega)
  have hfl : flatTo [x, y] ([x, y] : List (List Int)).length = x ++ y := by simp [flatTo, foldTo]
  rw [hfl] at hcat
  have HC := Lib.hid hcat
  have HB := Lib.hid hb
  have HM : Hid (∀ z ∈ x ++ y, Mild z) := Lib.hid fun z hz => (List.mem_append.1 hz).elim (hmx z) (hmy z)
  have HL : Hid ((x ++ y).length ≤ 8000000) := Lib.hid (by rw [List.length_append]; exact hl)
  clear hcat hb hu hv hmx hmy hfl
  generalize x ++ y = z at *
  go_enter Tryz.func28, Tryz.ntmps28
  go_wp2_with (first
    | (go_at_call 67
       (refine HC.out.mono ?_)
       rintro e w1 ⟨A, c, rfl, ho, hb⟩
       have HR := Lib.hid (reduce99_any w1 _ z (ho.ints (Mild.fits HM.out)) HM.out HL.out)
       have HB1 := Lib.hid (HB.out.trans (hb.mono HB.out.size))
       clear ho hb)
    | (go_at_call 66
       (refine HR.out.mono ?_)
       rintro e w2 ⟨A, c, rfl, ho, hb⟩
       have HO := Lib.hid ho
       have HB2 := Lib.hid hb
       clear ho hb))
  go_ret
  exact RedPost.base HB1.out ⟨_, _, rfl, HO.out, HB2.out⟩
end Go.Proofs
namespace Go.Proofs
open Go.RowKit Go.Shelf Go.Proofs.Ct
set_option maxRecDepth 100000 in
theorem inverse151_any (w : World) (x : Int) (hx : Mild x) : Calls Tryz.prog 113 #[.int .i64 x] w fun e w' => e = .returned (.int .i64 (-x)) ∧ w = w' := by
  obtain ⟨h1, h2⟩ := hx
  have d1 : (x == -9223372036854775808) = false := by simp; omega
  go_enter Tryz.func113, Tryz.ntmps113
  go_wp2_with fail
  go_ret
  exact ⟨rfl, rfl⟩
theorem take_rev_succ {w : List Int} {k : Nat} (h : k < w.length) : (inv w).take (k + 1) = (inv w).take k ++ [-(w.getD (w.length - 1 - k) 0)] := by
  have hk : k < (inv w).length := by rw [length_inv]; exact h
  rw [List.take_succ_eq_append_getElem hk]
  have h2 : w.length - 1 - k < w.length := by omega
  simp [inv, List.getElem_reverse, List.getD_eq_getElem?_getD, h2]
set_option maxRecDepth 100000 in
set_option maxHeartbeats 1000000 in
theorem turned137_any (w : World) (v : Value) (x : List Int) (h : IntsAt w v x) (hm : ∀ z ∈ x, Mild z) (hl : x.length ≤ 8000000) :
    Calls Tryz.prog 75 #[v] w fun e w' => (∃ u, e = .returned u ∧ IntsAt w' u (inv x)) ∧ Below w.heap.size w w' := by
  obtain ⟨A0, c0, rfl, hc1, hc2, hc⟩ := h.open_
  have HC := Lib.hid hc
  have HM := Lib.hid hm
  clear hc h hm
  have hx0 : (0 : Int) ≤ (x.length : Int) := Int.natCast_nonneg _
  have hx3 : (x.length : Int) ≤ 8000000 := by omega
  go_enter Tryz.func75, Tryz.ntmps75
  go_wp2_with fail
  go_loopw [3, 4] (fun so i wr => ∃ k : Nat, i = .int .i64 ((x.length : Int) - 1 - k) ∧ k ≤ x.length ∧ ∃ A c, so = .slice A k c ∧ Hid (OwnI w.heap.size wr so ((inv x).take k) ∧ Below w.heap.size w wr)) (fun _ i _ => (intOf i + 1).toNat)
  case atStart => exact ⟨0, by simp, by omega, none, 0, rfl, Lib.hid ⟨World.ownsRow_nil _ _ _ _, Below.refl _ _⟩⟩
  case round =>
    obtain ⟨k, rfl, hk, A, c, rfl, HS⟩ := hrel
    have hk0 : (0 : Int) ≤ (k : Int) := Int.natCast_nonneg _
    have htl : ((inv x).take k).length = k := by rw [List.length_take, length_inv]; omega
    have HTL := Lib.hid htl
    clear htl
    by_cases hlt : k < x.length
    · have hlt' : (k : Int) < (x.length : Int) := by omega
      obtain ⟨b, o, rfl, hcc⟩ := HC.out (by omega)
      obtain ⟨d, hd⟩ : ∃ d : Nat, x.length = d + 1 + k := ⟨x.length - 1 - k, by omega⟩
      have hck := hcc d (by omega)
      have hck' := (HS.out.2.cell (p := ⟨b, o + d, none⟩) (World.block_lt_of_cell? w _ hck)).trans hck
      have hmk := Mild.at_ HM.out d
      have HSUC : Hid ((inv x).take (k + 1) = (inv x).take k ++ [-(x.getD d 0)]) := Lib.hid (by rw [take_rev_succ hlt]; rw [show x.length - 1 - k = d by omega])
      clear hcc hck
      generalize x.getD d 0 = z at *
      have hmk' : -4611686018427387903 ≤ z ∧ z ≤ 4611686018427387903 := hmk
      obtain ⟨hz1, hz2⟩ := hmk'
      have hidx : (x.length : Int) - 1 - (k : Int) = (d : Int) := by omega
      have hd0 : (0 : Int) ≤ (d : Int) := Int.natCast_nonneg _
      have hd1 : (d : Int) < (x.length : Int) := by omega
      obtain ⟨A', c', w', hr, ho, hg, -⟩ := push_int 36 36 Tryz.underlying36 wr w.heap.size (.slice A k c) ((inv x).take k) HS.out.1 (-z) (by have := HTL.out; omega) HS.out.2.size
      rw [HTL.out] at hr ho
      rw [← HSUC.out] at ho
      have HR := Lib.hid hr
      have HS2 : Hid (OwnI w.heap.size w' (.slice A' (k + 1) c') ((inv x).take (k + 1)) ∧ Below w.heap.size w w') := Lib.hid ⟨ho, HS.out.2.grown hg HS.out.2.size (fun r hr => (owns_block HS.out.1 r hr).1)⟩
      have HI := Lib.hid (inverse151_any wr z hmk)
      have HD := Lib.hid hd
      have HIDX := Lib.hid hidx
      rw [hidx]
      clear hd hmk hr ho hg hidx
      go_wp2_with (first
        | (go_at_call 113; (refine HI.out.mono ?_); rintro e w' ⟨rfl, rfl⟩)
        | ((with_reducible refine wpList_sel 19 ?_); refine wpList_val rfl (r_app (.tmp 12) (.tmp 18) 36 rfl rfl rfl HR.out) ?_))
      go_roundw
      case rel => exact ⟨k + 1, congrArg (Value.int .i64) (by have := HIDX.out; omega), by omega, _, _, rfl, HS2⟩
      case measure => have := HIDX.out; simp [intOf] <;> omega
    · obtain rfl : k = x.length := by omega
      have hti : (inv x).take x.length = inv x := List.take_of_length_le (by rw [length_inv]; exact Nat.le_refl _)
      rw [hti] at HS
      have HT := Lib.hid (HS.out.1.ints (Mild.fits (mild_inv HM.out)))
      have hm1 : (x.length : Int) - 1 - (x.length : Int) = -1 := by omega
      rw [hm1]
      clear hti hm1
      go_wp2_with fail
      go_ret
      exact ⟨⟨_, rfl, HT.out⟩, HS.out.2⟩
set_option maxRecDepth 100000 in
theorem invert102_any (w : World) (v : Value) (x : List Int) (h : IntsAt w v x) (hm : ∀ z ∈ x, Mild z) (hl : x.length ≤ 8000000) : Calls Tryz.prog 36 #[v] w (RedPost (inv x) w) := by
  have HC := Lib.hid (turned137_any w v x h hm hl)
  have HM := Lib.hid (mild_inv hm)
  have HL : Hid ((inv x).length ≤ 8000000) := Lib.hid (by rw [length_inv]; exact hl)
  clear h hm hl
  go_enter Tryz.func36, Tryz.ntmps36
  go_wp2_with (first
    | (go_at_call 75
       (refine HC.out.mono ?_)
       rintro e w1 ⟨⟨u, rfl, hu⟩, hb⟩
       have HR := Lib.hid (reduce120_any w1 u (inv x) hu HM.out HL.out)
       have HB := Lib.hid hb
       clear hu hb)
    | (go_at_call 73
       (refine HR.out.mono ?_)
       rintro e w2 ⟨A, c, rfl, ho, hb⟩
       have HO := Lib.hid ho
       have HB2 := Lib.hid hb
       clear ho hb))
  go_ret
  exact RedPost.base HB.out ⟨A, c, rfl, HO.out, HB2.out⟩
set_option maxRecDepth 100000 in
set_option maxHeartbeats 1000000 in
theorem join136_any (w : World) (v : Value) (xs : List (List Int)) (h : Tab w v xs) (hl : sumTo xs xs.length ≤ 9000000) : Calls Tryz.prog 74 #[v] w (CatPost (flatTo xs xs.length) w) := by
  obtain ⟨A0, c0, rfl, hc1, hc2, hc⟩ := h.open_
  have HC := Lib.hid hc
  clear hc h
  have hx0 : (0 : Int) ≤ (xs.length : Int) := Int.natCast_nonneg _
  go_enter Tryz.func74, Tryz.ntmps74
  go_wp2_with fail
  go_loopw [3, 4] (fun so i wr => ∃ k n : Nat, i = .int .i64 k ∧ k ≤ xs.length ∧ Hid (n = (flatTo xs k).length) ∧ ∃ A c, so = .slice A n c ∧ Hid (OwnI w.heap.size wr so (flatTo xs k) ∧ Below w.heap.size w wr)) (fun _ i _ => xs.length - (intOf i).toNat)
  case atStart => exact ⟨0, 0, rfl, by omega, Lib.hid rfl, none, 0, rfl, Lib.hid ⟨World.ownsRow_nil _ _ _ _, Below.refl _ _⟩⟩
  case round =>
    obtain ⟨k, n, rfl, hk, HN, A, c, rfl, HS⟩ := hrel
    have hk0 : (0 : Int) ≤ (k : Int) := Int.natCast_nonneg _
    by_cases hlt : k < xs.length
    · have hlt' : (k : Int) < (xs.length : Int) := by omega
      obtain ⟨b, o, rfl, hcc⟩ := HC.out (by omega)
      obtain ⟨u, hu, hI⟩ := hcc k hlt
      have hu' := (HS.out.2.cell (p := ⟨b, o + k, none⟩) (World.block_lt_of_cell? w _ hu)).trans hu
      have hmo := sumTo_mono xs (k := k + 1) (m := xs.length) (by omega)
      have hst : sumTo xs (k + 1) = sumTo xs k + (xs.getD k []).length := rfl
      have hfl := flatTo_length xs k
      obtain ⟨A', c', w', hr, ho, hg, -⟩ := run_append_ints 36 36 Tryz.underlying36 wr w.heap.size (.slice A n c) u (flatTo xs k) (xs.getD k []) HS.out.1 (hI.below HS.out.2) (by omega) (by omega) HS.out.2.size
      have hs2 : flatTo xs k ++ xs.getD k [] = flatTo xs (k + 1) := rfl
      rw [hs2] at hr ho
      have HR := Lib.hid hr
      have HS2 : Hid (OwnI w.heap.size w' (.slice A' (flatTo xs (k + 1)).length c') (flatTo xs (k + 1)) ∧ Below w.heap.size w w') := Lib.hid ⟨ho, HS.out.2.grown hg HS.out.2.size (fun r hr => (owns_block HS.out.1 r hr).1)⟩
      clear hcc hu hI hmo hst hfl hr ho hg hs2
      go_wp2_with ((with_reducible refine wpList_sel 16 ?_); refine wpList_val rfl (r_app (.tmp 11) (.tmp 15) 36 rfl rfl rfl HR.out) ?_)
      go_roundw
      case rel => exact ⟨k + 1, _, by go_num, by omega, Lib.hid rfl, _, _, rfl, HS2⟩
      case measure => simp [intOf]; omega
    · obtain rfl : k = xs.length := by omega
      go_wp2_with fail
      go_ret
      exact ⟨A, c, by rw [← HN.out]; rfl, by rw [← HN.out]; exact HS.out.1, HS.out.2⟩
set_option maxRecDepth 100000 in
theorem mul101_any (w : World) (u v : Value) (x y : List Int) (hu : IntsAt w u x) (hv : IntsAt w v y) (hmx : ∀ z ∈ x, Mild z) (hmy : ∀ z ∈ y, Mild z) (hl : x.length + y.length ≤ 8000000) : Calls Tryz.prog 35 #[u, v] w (RedPost (x ++ y) w) := by
  obtain ⟨A0, c0, rfl, h1, h2, h3⟩ := hu.open_
  obtain ⟨A1, c1, rfl, k1, k2, k3⟩ := hv.open_
  clear h3 k3
  have hb : Below w.heap.size w (w.alloc (.cells #[.slice A0 x.length c0, .slice A1 y.length c1] 36)) := (Below.refl _ _).alloc (Nat.le_refl _) _
  have hcat := join136_any _ _ [x, y] (tab_two w _ _ x y hu hv (e := 36)) (by simp [sumTo, foldTo]; omega)
  have hfl : flatTo [x, y] ([x, y] : List (List Int)).length = x ++ y := by simp [flatTo, foldTo]
  rw [hfl] at hcat
  have HC := Lib.hid hcat
  have HB := Lib.hid hb
  have HM : Hid (∀ z ∈ x ++ y, Mild z) := Lib.hid fun z hz => (List.mem_append.1 hz).elim (hmx z) (hmy z)
  have HL : Hid ((x ++ y).length ≤ 8000000) := Lib.hid (by rw [List.length_append]; exact hl)
  clear hcat hb hu hv hmx hmy hfl
  generalize x ++ y = z at *
  go_enter Tryz.func35, Tryz.ntmps35
  go_wp2_with (first
    | (go_at_call 74
       (refine HC.out.mono ?_)
       rintro e w1 ⟨A, c, rfl, ho, hb⟩
       have HR := Lib.hid (reduce120_any w1 _ z (ho.ints (Mild.fits HM.out)) HM.out HL.out)
       have HB1 := Lib.hid (HB.out.trans (hb.mono HB.out.size))
       clear ho hb)
    | (go_at_call 73
       (refine HR.out.mono ?_)
       rintro e w2 ⟨A, c, rfl, ho, hb⟩
       have HO := Lib.hid ho
       have HB2 := Lib.hid hb
       clear ho hb))
  go_ret
  exact RedPost.base HB1.out ⟨_, _, rfl, HO.out, HB2.out⟩
end Go.Proofs
namespace Go.Proofs
open Go.RowKit Go.Shelf Go.Lib Go.Sort Go.Proofs.Ct Go.Proofs.Tz
theorem size76_any (w : World) (x : Int) (hx : Mild x) : Calls Tryz.prog 76 #[.int .i64 x] w fun e w' => e = .returned (.int .u64 (x.natAbs : Int)) ∧ w' = w := by
  obtain ⟨h1, h2⟩ := hx
  rcases Int.lt_or_le x 0 with h | h
  · have e1 : IntKind.u64.wrap x = x + 18446744073709551616 := by simp [IntKind.wrap, IntKind.bits, IntKind.signed]; omega
    have e2 : IntKind.u64.wrap (-(x + 18446744073709551616)) = -x := by simp [IntKind.wrap, IntKind.bits, IntKind.signed]; omega
    have HE : Hid ((x.natAbs : Int) = -x) := Lib.hid (by omega)
    go_enter Tryz.func76, Tryz.ntmps76
    go_wp2_with fail
    go_ret
    rw [HE.out]
    exact ⟨by first | rfl | simp [e1, e2], rfl⟩
  · have e1 : IntKind.u64.wrap x = x := by simp [IntKind.wrap, IntKind.bits, IntKind.signed]; omega
    have HE : Hid ((x.natAbs : Int) = x) := Lib.hid (by omega)
    go_enter Tryz.func76, Tryz.ntmps76
    go_wp2_with fail
    go_ret
    rw [HE.out]
    exact ⟨by first | rfl | simp [e1], rfl⟩
theorem befI_neg (x y : Int) : befI x y < 0 ↔ x.natAbs < y.natAbs ∨ x.natAbs = y.natAbs ∧ y < x := by
  unfold befI
  have h1 := cmpI_neg (x := (x.natAbs : Int)) (y := y.natAbs)
  have h2 := cmpI_zero (x := (x.natAbs : Int)) (y := y.natAbs)
  have h3 := cmpI_neg (x := y) (y := x)
  split <;> omega
theorem befI_swap (x y : Int) : befI y x = -befI x y := by rw [befI_key, befI_key, cmpI_swap]
theorem before116_any (w : World) (x y : Int) (hx : Mild x) (hy : Mild y) : Calls Tryz.prog 116 #[.int .i64 x, .int .i64 y] w fun e w' => e = .returned (.bool (decide (befI x y < 0))) ∧ w = w' := by
  have HS1 := Lib.hid fun W => size76_any W x hx
  have HS2 := Lib.hid fun W => size76_any W y hy
  have hb := befI_neg x y
  have HX : Hid (0 ≤ (x.natAbs : Int) ∧ 0 ≤ (y.natAbs : Int)) := Lib.hid ⟨by omega, by omega⟩
  by_cases h1 : x.natAbs < y.natAbs
  · have d1 : decide ((x.natAbs : Int) < (y.natAbs : Int)) = true := decide_eq_true (by omega)
    have HR : Hid (decide (befI x y < 0) = true) := Lib.hid (decide_eq_true (hb.2 (.inl h1)))
    clear hb h1 hx hy
    generalize (x.natAbs : Int) = p at *
    generalize (y.natAbs : Int) = q at *
    go_enter Tryz.func116, Tryz.ntmps116
    go_wp2_with (first
      | (go_at_call 76; (with_reducible refine (HS1.out _).mono ?_); rintro e w' ⟨rfl, rfl⟩)
      | (go_at_call 76; (with_reducible refine (HS2.out _).mono ?_); rintro e w' ⟨rfl, rfl⟩))
    go_ret
    exact ⟨by rw [HR.out]; rfl, rfl⟩
  · have d1 : decide ((x.natAbs : Int) < (y.natAbs : Int)) = false := decide_eq_false (by omega)
    by_cases h2 : x.natAbs = y.natAbs
    · have d2 : ((x.natAbs : Int) == (y.natAbs : Int)) = true := by rw [h2]; simp
      have HR : Hid (decide (befI x y < 0) = decide (y < x)) := Lib.hid (by
        rw [decide_eq_decide, hb]
        omega)
      clear hb h1 h2 hx hy
      generalize (x.natAbs : Int) = p at *
      generalize (y.natAbs : Int) = q at *
      generalize befI x y = R at *
      go_enter Tryz.func116, Tryz.ntmps116
      go_wp2_with (first
        | (go_at_call 76; (with_reducible refine (HS1.out _).mono ?_); rintro e w' ⟨rfl, rfl⟩)
        | (go_at_call 76; (with_reducible refine (HS2.out _).mono ?_); rintro e w' ⟨rfl, rfl⟩))
      all_goals
        go_ret
        exact ⟨by rw [HR.out]; first | rfl | simp_all, rfl⟩
    · have d2 : ((x.natAbs : Int) == (y.natAbs : Int)) = false := by rw [beq_eq_false_iff_ne]; omega
      have HR : Hid (decide (befI x y < 0) = false) := Lib.hid (decide_eq_false fun h => by have := hb.1 h; omega)
      clear hb h1 h2 hx hy
      generalize (x.natAbs : Int) = p at *
      generalize (y.natAbs : Int) = q at *
      go_enter Tryz.func116, Tryz.ntmps116
      go_wp2_with (first
        | (go_at_call 76; (with_reducible refine (HS1.out _).mono ?_); rintro e w' ⟨rfl, rfl⟩)
        | (go_at_call 76; (with_reducible refine (HS2.out _).mono ?_); rintro e w' ⟨rfl, rfl⟩))
      go_ret
      exact ⟨by rw [HR.out]; rfl, rfl⟩
set_option maxRecDepth 100000 in
set_option maxHeartbeats 1000000 in
theorem cmp78_any (w : World) (u v : Value) (x y : List Int) (hu : IntsAt w u x) (hv : IntsAt w v y) (hmx : ∀ z ∈ x, Mild z) (hmy : ∀ z ∈ y, Mild z) : Calls Tryz.prog 78 #[u, v] w fun e w' => e = .returned (.int .i64 (cmpW x y)) ∧ ∃ q, w' = w.drewN q := by
  obtain ⟨A, c, rfl, h1, h2, hcx⟩ := hu.open_
  obtain ⟨B, d, rfl, h3, h4, hcy⟩ := hv.open_
  have hI : cmpW x y = if cmpI (x.length : Int) (y.length : Int) ≠ 0 then cmpI (x.length : Int) (y.length : Int) else cmpL x y := rfl
  have hE : Hid (x.length = y.length → cmpW x y = cmpL (x.drop 0) (y.drop 0)) := Lib.hid fun h => by
    rw [hI, if_neg]
    · rfl
    · rw [h]; simp [cmpI]
  have hL : Hid (x.length < y.length → cmpW x y = -1) := Lib.hid fun h => by
    have : cmpI (x.length : Int) (y.length : Int) = -1 := by unfold cmpI; rw [if_pos (by omega)]
    rw [hI, this, if_pos (by decide)]
  have hG : Hid (y.length < x.length → cmpW x y = 1) := Lib.hid fun h => by
    have : cmpI (x.length : Int) (y.length : Int) = 1 := by unfold cmpI; rw [if_neg (by omega), if_pos (by omega)]
    rw [hI, this, if_pos (by decide)]
  clear hI
  generalize cmpW x y = R at *
  have HCX := Lib.hid hcx
  have HCY := Lib.hid hcy
  have HX := Lib.hid hmx
  have HY := Lib.hid hmy
  have hx0 : (0 : Int) ≤ (x.length : Int) := Int.natCast_nonneg _
  have hy0 : (0 : Int) ≤ (y.length : Int) := Int.natCast_nonneg _
  have hx1 : (x.length : Int) ≤ 9223372036854775807 := by omega
  have hy1 : (y.length : Int) ≤ 9223372036854775807 := by omega
  clear hu hv hmx hmy hcx hcy h1 h2 h3 h4
  rcases Nat.lt_trichotomy x.length y.length with h | h | h
  · have HR := Lib.hid (hL.out h)
    have d1 : decide ((x.length : Int) < (y.length : Int)) = true := decide_eq_true (by omega)
    have d1' : decide (x.length < y.length) = true := decide_eq_true (by omega)
    clear h hL hG hE
    go_enter Tryz.func78, Tryz.ntmps78
    go_wp2_with fail
    go_ret
    exact ⟨ret_int HR.out.symm, 0, rfl⟩
  · have HR := Lib.hid (hE.out h)
    have HL := Lib.hid h
    have d1 : decide ((x.length : Int) < (y.length : Int)) = false := decide_eq_false (by omega)
    have d1' : decide (x.length < y.length) = false := decide_eq_false (by omega)
    have d2 : decide ((y.length : Int) < (x.length : Int)) = false := decide_eq_false (by omega)
    have d2' : decide (y.length < x.length) = false := decide_eq_false (by omega)
    have hyx : Hid ((y.length : Int) = (x.length : Int)) := Lib.hid (by omega)
    clear h hL hG hE
    go_enter Tryz.func78, Tryz.ntmps78
    go_wp2_with fail
    go_loopw [5] (fun z wr => ∃ k : Nat, k ≤ x.length ∧ z = .int .i64 k ∧ Hid (R = cmpL (x.drop k) (y.drop k)) ∧ ∃ q, wr = w.drewN q) (fun z _ => x.length - (intOf z).toNat)
    case atStart => exact ⟨0, by omega, rfl, HR, 0, rfl⟩
    case round =>
      clear HR
      obtain ⟨k, hk, rfl, HR, q, rfl⟩ := hrel
      by_cases hkx : k < x.length
      · have hkx' : (k : Int) < (x.length : Int) := by omega
        have hky' : (k : Int) < (y.length : Int) := by have := hyx.out; omega
        obtain ⟨b, o, rfl, hc⟩ := HCX.out (by omega)
        obtain ⟨b2, o2, rfl, hc2⟩ := HCY.out (by have := HL.out; omega)
        have x1 := hc k hkx
        have x2 := hc2 k (by have := HL.out; omega)
        have HD := Lib.hid (cmpL_drop hkx (show k < y.length by have := HL.out; omega))
        have HB1 : Hid (∀ W, Calls Tryz.prog 116 #[.int .i64 (x.getD k 0), .int .i64 (y.getD k 0)] W fun e w' => e = .returned (.bool (decide (befI (x.getD k 0) (y.getD k 0) < 0))) ∧ W = w') := Lib.hid fun W => before116_any W _ _ (Mild.at_ HX.out k) (Mild.at_ HY.out k)
        have HB2 : Hid (∀ W, Calls Tryz.prog 116 #[.int .i64 (y.getD k 0), .int .i64 (x.getD k 0)] W fun e w' => e = .returned (.bool (decide (befI (y.getD k 0) (x.getD k 0) < 0))) ∧ W = w') := Lib.hid fun W => before116_any W _ _ (Mild.at_ HY.out k) (Mild.at_ HX.out k)
        have HSW : Hid (befI (y.getD k 0) (x.getD k 0) = -befI (x.getD k 0) (y.getD k 0)) := Lib.hid (befI_swap _ _)
        have HBD : Hid (-1 ≤ befI (x.getD k 0) (y.getD k 0) ∧ befI (x.getD k 0) (y.getD k 0) ≤ 1) := Lib.hid (by rw [befI_key]; exact cmpI_bd _ _)
        generalize x.getD k 0 = p at *
        generalize y.getD k 0 = s at *
        rw [HSW.out] at HB2
        generalize befI p s = z at *
        clear hc hc2 hkx HSW
        rcases Int.lt_trichotomy z 0 with hz | hz | hz
        · have HRz : Hid (R = -1) := Lib.hid (by rw [HR.out, HD.out, if_pos (by omega)]; have := HBD.out; omega)
          rw [decide_eq_true hz] at HB1
          clear hz HR HD HBD HB2
          go_wp2_with fail
          go_quiet ((go_at_call 116; exact quiet_add_left (HB1.out _)))
          go_wp2_with fail
          go_ret
          exact ⟨ret_int HRz.out.symm, _, World.drewN_drewN ..⟩
        · have HRz : Hid (R = cmpL (x.drop (k + 1)) (y.drop (k + 1))) := Lib.hid (by rw [HR.out, HD.out, if_neg (by omega)])
          rw [decide_eq_false (show ¬ z < 0 by omega)] at HB1
          rw [decide_eq_false (show ¬ -z < 0 by omega)] at HB2
          clear hz HR HD HBD
          go_wp2_with fail
          go_quiet ((go_at_call 116; exact quiet_add_left (HB1.out _)))
          go_wp2_with fail
          go_quiet ((go_at_call 116; exact quiet_add_left (HB2.out _)))
          go_wp2_with fail
          go_roundw
          case rel => exact ⟨k + 1, by omega, by go_num, HRz, _, rfl⟩
          case measure => simp [intOf]; omega
        · have HRz : Hid (R = 1) := Lib.hid (by rw [HR.out, HD.out, if_pos (by omega)]; have := HBD.out; omega)
          rw [decide_eq_false (show ¬ z < 0 by omega)] at HB1
          rw [decide_eq_true (show -z < 0 by omega)] at HB2
          clear hz HR HD HBD
          go_wp2_with fail
          go_quiet ((go_at_call 116; exact quiet_add_left (HB1.out _)))
          go_wp2_with fail
          go_quiet ((go_at_call 116; exact quiet_add_left (HB2.out _)))
          go_wp2_with fail
          go_ret
          exact ⟨ret_int HRz.out.symm, _, (congrArg (fun z => World.drewN z _) (World.drewN_drewN ..)).trans (World.drewN_drewN ..)⟩
      · obtain rfl : k = x.length := by omega
        have HRz : Hid (R = 0) := Lib.hid (by rw [HR.out, cmpL_end2 (Nat.le_refl _), if_neg (by have := HL.out; omega)])
        clear HR
        go_wp2_with fail
        go_ret
        exact ⟨ret_int HRz.out.symm, q, rfl⟩
  · have HR := Lib.hid (hG.out h)
    have d1 : decide ((x.length : Int) < (y.length : Int)) = false := decide_eq_false (by omega)
    have d1' : decide (x.length < y.length) = false := decide_eq_false (by omega)
    have d2 : decide ((y.length : Int) < (x.length : Int)) = true := decide_eq_true (by omega)
    have d2' : decide (y.length < x.length) = true := decide_eq_true (by omega)
    clear h hL hG hE
    go_enter Tryz.func78, Tryz.ntmps78
    go_wp2_with fail
    go_ret
    exact ⟨ret_int HR.out.symm, 0, rfl⟩
end Go.Proofs
namespace Go.Proofs
open Go.RowKit Go.Shelf Go.Lib Go.Sort Go.Proofs.Ct Go.Proofs.Tz
theorem own_empty (w : World) : OwnI w.heap.size (w.alloc (.cells #[] 3)) (.slice (some ⟨w.heap.size, 0, none⟩) 0 0) [] :=
  ⟨rfl, .inr ⟨w.heap.size, 0, _, rfl, Nat.le_refl _, heap_alloc_new w _, Nat.le_refl _, by simp [maxLen], rfl, rfl⟩⟩
/-- a copy of a list behind an empty one -/
theorem copy_empty (ty t : TypeId) (ht : Tryz.prog.underlying t = some (.slice 3)) (w : World) (v : Value) (x : List Int) (h : IntsAt w v x) (hl : x.length ≤ 8000000) :
    ∃ A' c' w', (Builtin.append_ #[t, t] ty #[.slice (some ⟨w.heap.size, 0, none⟩) 0 0, v]).run Tryz.prog (w.alloc (.cells #[] 3)) = .ok (.slice A' x.length c') w' ∧ OwnI w.heap.size w' (.slice A' x.length c') x ∧ Below w.heap.size w w' := by
  have hb : Below w.heap.size w (w.alloc (.cells #[] 3)) := (Below.refl _ _).alloc (Nat.le_refl _) _
  obtain ⟨A', c', w', h1, h2, h3, -⟩ := run_append_ints ty t ht _ w.heap.size _ v [] x (own_empty w) (h.below hb) (by simp) (by omega) hb.size
  exact ⟨A', c', w', h1, h2, hb.grown h3 hb.size fun r hr => by
    cases hr
    exact Nat.le_refl _⟩
set_option maxRecDepth 100000 in
theorem own130_any (w : World) (v : Value) (x : List Int) (h : IntsAt w v x) (hl : x.length ≤ 8000000) : Calls Tryz.prog 130 #[v] w fun e w' => ∃ A c, e = .returned (.slice A x.length c) ∧ OwnI w.heap.size w' (.slice A x.length c) x ∧ Below w.heap.size w w' := by
  obtain ⟨A', c', w', h1, h2, h3⟩ := copy_empty 35 35 Tryz.underlying35 w v x h hl
  have H1 := Lib.hid h1
  have H2 := Lib.hid h2
  have H3 := Lib.hid h3
  clear h h1 h2 h3
  go_enter Tryz.func130, Tryz.ntmps130
  go_wp2_with ((with_reducible refine wpList_sel 5 ?_); refine wpList_val rfl (r_app (.tmp 3) (.tmp 4) 35 rfl rfl rfl H1.out) ?_)
  go_ret
  exact ⟨_, _, rfl, H2.out, H3.out⟩
set_option maxRecDepth 100000 in
theorem check114_ok (w : World) (v : Value) (x : List Int) (h : IntsAt w v x) (hok : LOk 16 x) (hl : x.length ≤ 4000) : Calls Tryz.prog 114 #[v, .int .i64 16] w fun e w' => e = .returned (.int .i64 0) ∧ w = w' := by
  obtain ⟨A, c, rfl, h1, h2, hc⟩ := h.open_
  have HC := Lib.hid hc
  have HK := Lib.hid hok
  have hx0 : (0 : Int) ≤ (x.length : Int) := Int.natCast_nonneg _
  have hx1 : (x.length : Int) ≤ 4000 := by omega
  clear h hc hok h1 h2
  go_enter Tryz.func114, Tryz.ntmps114
  go_wp2_with fail
  go_loopw [5] (fun z wr => ∃ k : Nat, k ≤ x.length ∧ z = .int .i64 k ∧ wr = w) (fun z _ => x.length - (intOf z).toNat)
  case atStart => exact ⟨0, by omega, rfl, rfl⟩
  case round =>
    obtain ⟨k, hk, rfl, rfl⟩ := hrel
    by_cases hkx : k < x.length
    · have hkx' : (k : Int) < (x.length : Int) := by omega
      obtain ⟨b, o, rfl, hcc⟩ := HC.out (by omega)
      have x1 := hcc k hkx
      have hz := HK.out (x.getD k 0) (by rw [List.getD_eq_getElem?_getD, List.getElem?_eq_getElem hkx]; exact List.getElem_mem hkx)
      clear hcc
      generalize x.getD k 0 = z at *
      have d1 : (z == 0) = false := by rw [beq_eq_false_iff_ne]; omega
      have d2 : decide (z < -16) = false := decide_eq_false (by omega)
      have d3 : decide (16 < z) = false := decide_eq_false (by omega)
      go_wp2_with fail
      go_roundw
      case rel => exact ⟨k + 1, by omega, by go_num, trivial⟩
      case measure => simp [intOf]; omega
    · obtain rfl : k = x.length := by omega
      go_wp2_with fail
      go_ret
      exact ⟨rfl, rfl⟩
set_option maxRecDepth 100000 in
set_option maxHeartbeats 1000000 in
theorem cyclic115_any (w : World) (v : Value) (x : List Int) (h : IntsAt w v x) (hm : ∀ z ∈ x, Mild z) (hl : x.length ≤ 8000000) : Calls Tryz.prog 115 #[v] w (OwnPost (cyc x) w) := by
  have HRED := Lib.hid (reduce120_any w v x h hm hl)
  have hmr : ∀ z ∈ red x, Mild z := fun z hz => hm z (red_mem hz)
  have hlr := red_length x
  obtain ⟨A0, c0, rfl, -, -, -⟩ := h.open_
  have HC : Hid (cyc x = cycTo x.length (red x)) := Lib.hid rfl
  have HM := Lib.hid hmr
  generalize hR : cyc x = R at *
  have hRl : R.length ≤ x.length := by rw [← hR]; exact (cyc_sub x).2
  clear h hm hR hmr
  unfold OwnPost
  go_enter Tryz.func115, Tryz.ntmps115
  go_wp2_with fail
  refine HRED.out.mono ?_
  rintro e w1 ⟨A, c, rfl, ho, hb⟩
  have HO := Lib.hid (OwnI.ints ho (Mild.fits HM.out))
  have HB := Lib.hid hb
  clear ho hb HRED
  generalize red x = r at *
  go_wp2_with fail
  go_loopw [0] (fun z wr => ∃ (u : List Int) (n A c : _), z = .slice A u.length c ∧ Hid (IntsAt w1 (.slice A u.length c) u ∧ (∀ y ∈ u, Mild y) ∧ R = cycTo n u) ∧ u.length ≤ n ∧ u.length ≤ 8000000 ∧ ∃ q, wr = w1.drewN q) (fun z _ => lenV z)
  case atStart => exact ⟨r, x.length, A, c, rfl, Lib.hid ⟨HO.out, HM.out, HC.out⟩, hlr, by omega, 0, rfl⟩
  case round =>
    obtain ⟨u, n, A, c, rfl, HU, hun, hu8, q, rfl⟩ := hrel
    have hu0 : (0 : Int) ≤ (u.length : Int) := Int.natCast_nonneg _
    have hu1 : (u.length : Int) ≤ 8000000 := by omega
    by_cases h1 : 1 < u.length
    · have h1' : 1 < (u.length : Int) := by omega
      obtain ⟨m, hm⟩ : ∃ m, u.length = m + 1 := ⟨u.length - 1, by omega⟩
      obtain ⟨n', rfl⟩ : ∃ n', n = n' + 1 := ⟨n - 1, by omega⟩
      obtain ⟨A', c', e1, -, -, hc⟩ := HU.out.1.open_
      injection e1 with e1 e2 e3
      subst e1 e3
      obtain ⟨b, o, rfl, hcc⟩ := hc (by omega)
      have hc0 : w1.cell? ⟨b, o + 0, none⟩ = some (.int .i64 (u.getD 0 0)) := hcc 0 (by omega)
      rw [Nat.add_zero] at hc0
      have hcm := hcc m (by omega)
      have HOP := Lib.hid fun W => cancel146_any W (u.getD 0 0) (u.getD m 0) (Mild.at_ HU.out.2.1 0) (Mild.at_ HU.out.2.1 m)
      have HSTEP : Hid (cycTo (n' + 1) u = if opp (u.getD 0 0) (u.getD m 0) = true then cycTo n' ((u.drop 1).take (u.length - 2)) else u) := Lib.hid (by
        rw [cycTo, show u.length - 1 = m by omega]
        by_cases ho : opp (u.getD 0 0) (u.getD m 0) = true
        · rw [if_pos ⟨h1, ho⟩, if_pos ho]
        · rw [if_neg (fun h => ho h.2), if_neg ho])
      obtain ⟨A2, hs, hi⟩ := ints_cut (k := 1) (h := m) HU.out.1 (by omega) (by omega)
      have hl2 : ((u.take m).drop 1).length = m - 1 := by rw [List.length_drop, List.length_take]; omega
      have HSL := Lib.hid hs
      have HI2 := Lib.hid hi
      have HL2 := Lib.hid hl2
      have hcap : m ≤ c := by
        obtain ⟨A', c', e1, h5, -, -⟩ := HU.out.1.open_
        injection e1 with e1 e2 e3
        omega
      have hEQ : (u.drop 1).take (u.length - 2) = (u.take m).drop 1 := by rw [List.drop_take, hm]; congr 1
      have HEQ := Lib.hid hEQ
      have HM' := Lib.hid hm
      have hmI : (u.length : Int) - 1 = (m : Int) := by omega
      have hm0 : (0 : Int) ≤ (m : Int) := Int.natCast_nonneg _
      have hm1 : 1 ≤ (m : Int) := by omega
      have hmlt : (m : Int) < (u.length : Int) := by omega
      have hmlt' : m < u.length := by omega
      have h0lt : (0 : Int) < (u.length : Int) := by omega
      have hmw : IntKind.i64.wrap (m : Int) = (m : Int) := by simp [IntKind.wrap, IntKind.bits, IntKind.signed]; omega
      have h0lt' : 0 < u.length := by omega
      clear hcc hc e2 h1 hs hi hl2 hEQ hm
      generalize u.getD 0 0 = y at *
      generalize u.getD m 0 = z at *
      have hd : decide (1 < (u.length : Int)) = true := decide_eq_true (by omega)
      cases ho : opp y z with
      | true =>
        rw [ho] at HOP
        have HS2 : Hid (cycTo (n' + 1) u = cycTo n' ((u.take m).drop 1)) := Lib.hid (by rw [HSTEP.out, ho, if_pos rfl, HEQ.out])
        go_wp2_with fail
        go_quiet ((go_at_call 112; exact quiet_add_left (HOP.out _)))
        go_wp2_with ((with_reducible refine wpList_sel 24 ?_); refine wpList_val rfl (run_sl_lohi under24w size24w (.tmp 20) (.const (.int .i64 1)) (.tmp 23) _ _ _ 1 m rfl rfl rfl rfl (by omega) hcap) ?_)
        have hSL : sliced (some ⟨b, o, none⟩) 1 m c 1 = .slice (if c = 1 then some ⟨b, o, none⟩ else some ⟨b, o + 1, none⟩) (m - 1) (c - 1) := by
          unfold sliced
          have : (c - 1 = 0) ↔ c = 1 := by omega
          simp [Addr.add_mid]
        rw [HSL.out] at hSL
        injection hSL with hA
        rw [← hA]
        go_roundw
        case rel => exact ⟨(u.take m).drop 1, n', A2, c - 1, by rw [HL2.out], Lib.hid ⟨by rw [HL2.out]; exact HI2.out, fun y hy => HU.out.2.1 y (List.mem_of_mem_take (List.mem_of_mem_drop hy)), by rw [HU.out.2.2, HS2.out]⟩, by have := HL2.out; omega, by have := HL2.out; omega, _, rfl⟩
        case measure => simp [lenV]; omega
      | false =>
        rw [ho] at HOP
        have HS2 : Hid (R = u) := Lib.hid (by rw [HU.out.2.2, HSTEP.out, ho, if_neg (by simp)])
        have HCL : Hid (∀ r, Calls Tryz.prog 130 #[.slice (some ⟨b, o, none⟩) u.length c] (w1.drewN r) fun e w' => ∃ A9 c9, e = .returned (.slice A9 u.length c9) ∧ OwnI w1.heap.size w' (.slice A9 u.length c9) u ∧ Below w1.heap.size w1 w') := Lib.hid fun r => (own130_any (w1.drewN r) _ u (HU.out.1.drewN r) (by omega)).mono fun e w' ⟨A9, c9, h3, h4, h5⟩ => ⟨A9, c9, h3, h4, (below_drewN (Below.refl _ _) r).trans h5⟩
        go_wp2_with fail
        go_quiet ((go_at_call 112; exact quiet_add_left (HOP.out _)))
        go_wp2_with (first
          | (go_at_call 130; (refine (HCL.out _).mono ?_); rintro e w' ⟨A9, c9, rfl, ho, hb⟩))
        go_ret
        have := HS2.out
        subst this
        exact ⟨_, _, rfl, owns_base ho HB.out.size, HB.out.trans (hb.mono HB.out.size)⟩
    · have h1' : (u.length : Int) ≤ 1 := by omega
      have HE : Hid (R = u) := Lib.hid (by
        rw [HU.out.2.2]
        cases n with
        | zero => rfl
        | succ n => rw [cycTo, if_neg (fun h => h1 h.1)])
      have hd : decide (1 < (u.length : Int)) = false := decide_eq_false (by omega)
      have HCL : Hid (∀ r, Calls Tryz.prog 130 #[.slice A u.length c] (w1.drewN r) fun e w' => ∃ A9 c9, e = .returned (.slice A9 u.length c9) ∧ OwnI w1.heap.size w' (.slice A9 u.length c9) u ∧ Below w1.heap.size w1 w') := Lib.hid fun r => (own130_any (w1.drewN r) (.slice A u.length c) u (HU.out.1.drewN r) (by omega)).mono fun e w' ⟨A9, c9, h3, h4, h5⟩ => ⟨A9, c9, h3, h4, (below_drewN (Below.refl _ _) r).trans h5⟩
      clear h1 h1'
      go_wp2_with fail
      go_quiet (fail)
      go_wp2_with (first
        | (go_at_call 130; (refine (HCL.out _).mono ?_); rintro e w' ⟨A9, c9, rfl, ho, hb⟩))
      go_ret
      have := HE.out
      subst this
      exact ⟨_, _, rfl, owns_base ho HB.out.size, HB.out.trans (hb.mono HB.out.size)⟩
end Go.Proofs
