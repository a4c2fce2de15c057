/- Operations that make or grow a list, one at a time; what stands while a row joins; tietze.shorter where it finds a place; tietze.shorter, whole; The images of an elimination as they are laid (plain); A region that draws its order: what its slots hold lies in blocks of their own (footprints); some are written again by the operation that takes them; What the slots of a drawn region hold, each in blocks of its own (for the law of T2). -/
import Derived.Test.YtmmbmhjdnlmedaaTkCS10
import Derived.Test.YtmmbmhjdnlmedaaTkCS9
import Derived.Test.YtmmbmhjdnlmedaaTkCS1
namespace Go.Proofs
open Go.RowKit Go.Shelf Go.Proofs.Ct Go.Maps
section
variable {o : Oper} {a : Act} {w w' : World} {n : Nat} {v : Value}
theorem r_len (x : Operand) (T : TypeId) (A : Option Addr) (m c : Nat) {E : TypeId} (hT : Try.prog.underlying T = some (.slice E)) (ho : o.op = .call { callee := .builtin .len, args := #[x], argTypes := #[T] }) (hx : a.eval x = .slice A m c) : (execOp a.eval o).run Try.prog w = .ok (.value (.int .i64 (m : Int))) w := by
  unfold execOp
  simp only [ho, resolve, invoke, builtin, Sem.run_bind, Sem.run_pure, Result.andThen_ok, List.map_toArray, List.map_cons, List.map_nil, hx]
  simp [Builtin.len_, run_underlying hT, goInt]
end
/-- what an operation may turn: nothing that lies above N, and nothing of a state unless it is the operation z -/
def Still (N z : Nat) (i : Nat) (w w' : World) : Prop := (∀ k, N ≤ k → k < w.heap.size → w'.heap[k]? = w.heap[k]?) ∧ (i ≠ z → ∀ (k : Nat) (C : Array Value) (e : TypeId), w.heap[k]? = some (.cells C e (0, 0)) → (e = 3 ∨ e = 23) → w'.heap[k]? = w.heap[k]?)
theorem Still.same {N z i : Nat} {w : World} : Still N z i w w := ⟨fun _ _ _ => rfl, fun _ _ _ _ _ _ => rfl⟩
theorem Still.of_below {N z i : Nat} {w w' : World} (h : Below w.heap.size w w') : Still N z i w w' := ⟨fun k _ hk => h.block k hk, fun _ k _C _e hC _ => h.block k (Array.getElem?_eq_some_iff.1 hC).1⟩
theorem Still.grown {N z : Nat} {w w' : World} {row : Option Nat} (h : w.grownBy w' row) (hr : ∀ r, row = some r → r < N) : Still N z z w w' :=
  ⟨fun k hk hl => h.block k hl fun e => by have := hr k e.symm; omega, fun e => absurd rfl e⟩
/-- what each operation of the region that adds a row has brought -/
def RowF (base N m : Nat) (t : Tb) (q : List Nat) (P : List Int) (b : Nat) (vr vp vq : Value) (bl cs : Nat → Nat) : Nat → Value → World → Prop
  | 5, v, w => ∃ g, v = .slice (some ⟨g, 0, none⟩) 1 1 ∧ N ≤ g ∧ w.heap[g]? = some (.cells #[.int .i64 (-1)] 3 (0, 0))
  | 10, v, w => ∃ g, v = .slice (some ⟨g, 0, none⟩) m m ∧ N ≤ g ∧ w.heap[g]? = some (.cells (rp (-1) m m).toArray 3 (0, 0))
  | 11, v, w => ∃ g h, v = .slice (some ⟨h, 0, none⟩) 1 1 ∧ N ≤ g ∧ N ≤ h ∧ w.heap[g]? = some (.cells (rp (-1) m m).toArray 3 (0, 0)) ∧ w.heap[h]? = some (.cells #[.slice (some ⟨g, 0, none⟩) m m] 23 (0, 0))
  | 12, v, w => ∃ A c g, v = .slice A (t.length + 1) c ∧ CoreN base w (t ++ [List.replicate m (-1)]) q P v vp vq (fun i => if i = t.length then g else bl i) (fun i => if i = t.length then m else cs i)
  | i, v, _ => v = ([.pointer (some ⟨b, 0, none⟩), .pointer (some ⟨b, 0, none⟩), .pointer (some ⟨b, 0, none⟩), .pointer (some ⟨b, 2, none⟩), vr, undef, .pointer (some ⟨b, 0, none⟩), .pointer (some ⟨b, 0, none⟩), .pointer (some ⟨b, 0, none⟩), .int .i64 (m : Int), undef, undef, undef, .pointer (some ⟨b, 0, none⟩), .pointer (some ⟨b, 2, none⟩), undef] : List Value).getD i undef
theorem RowF.keep {base N m b : Nat} {t : Tb} {q : List Nat} {P : List Int} {vr vp vq : Value} {bl cs : Nat → Nat} : ∀ (i j : Nat) (v : Value) (w w' : World), i < 16 → j < 16 → i ≠ j → Still N 12 i w w' → RowF base N m t q P b vr vp vq bl cs j v w → RowF base N m t q P b vr vp vq bl cs j v w' := by
  intro i j v w w' hi hj hne hS h
  have hk : ∀ (g : Nat) (o : Obj), N ≤ g → w.heap[g]? = some o → w'.heap[g]? = some o := fun g o hg ho => (hS.1 g hg (Array.getElem?_eq_some_iff.1 ho).1).trans ho
  have hcases : j = 5 ∨ j = 10 ∨ j = 11 ∨ j = 12 ∨ (j ≠ 5 ∧ j ≠ 10 ∧ j ≠ 11 ∧ j ≠ 12) := by omega
  rcases hcases with rfl | rfl | rfl | rfl | ⟨h1, h2, h3, h4⟩
  · obtain ⟨g, e, hg, hc⟩ := h
    exact ⟨g, e, hg, hk g _ hg hc⟩
  · obtain ⟨g, e, hg, hc⟩ := h
    exact ⟨g, e, hg, hk g _ hg hc⟩
  · obtain ⟨g, h0, e, hg, hh, hc, hc2⟩ := h
    exact ⟨g, h0, e, hg, hh, hk g _ hg hc, hk h0 _ hh hc2⟩
  · obtain ⟨A, c, g, e, hC⟩ := h
    exact ⟨A, c, g, e, hC.keep fun k C e0 _ hC' he => hS.2 hne k C e0 hC' he⟩
  · unfold RowF at h ⊢
    split at h <;> first | contradiction | exact h
end Go.Proofs
namespace Go.Proofs
open Go.RowKit Go.Shelf Go.Lib Go.Sort Go.Proofs.Ct Go.Proofs.Tz Go.Maps
/-- what a slot of a region holds, and words of the call's own -/
inductive SlO where
  | eq (v : Value) | ints (l : List Int) | tab (l : List (List Int)) | own (b : Nat) (l : List Int)
def SlO.holds : SlO → Value → World → Prop
  | .eq u, v, _ => v = u
  | .ints l, v, w => ∃ A c, v = .slice A l.length c ∧ IntsAt w v l
  | .tab l, v, w => Tab w v l
  | .own b l, v, w => ∃ A c, v = .slice A l.length c ∧ OwnI b w v l
theorem SlO.keep {s : SlO} {v : Value} {w w' : World} (h : Below w.heap.size w w') : s.holds v w → s.holds v w' := by
  cases s with
  | eq u => exact id
  | ints l => exact fun ⟨A, c, e, k⟩ => ⟨A, c, e, k.below h⟩
  | tab l => exact fun k => kept_tab.below k h
  | own b l => exact fun ⟨A, c, e, k⟩ => ⟨A, c, e, owns_below k h⟩
theorem call39' (args : Array Value) (w : World) : (callFunc 39 args).run Try.prog w = .ok (.enter 39 args) w := enters_of Try.func39 (by kernel_rfl) rfl args w
theorem fld89_0 (b : Nat) (w : World) : (Instr.fieldAt 89 (.pointer (some ⟨b, 0, none⟩)) 0).run Try.prog w = .ok (.pointer (some ⟨b, 0, none⟩)) w := by kernel_rfl
theorem fld89_1 (b : Nat) (w : World) : (Instr.fieldAt 89 (.pointer (some ⟨b, 0, none⟩)) 1).run Try.prog w = .ok (.pointer (some ⟨b, 1, none⟩)) w := by kernel_rfl
set_option maxRecDepth 100000 in
set_option maxHeartbeats 4000000 in
theorem shorter49_some (w : World) (us uh ut : Value) (s h t : List Int) (k0 : Nat) (hs : IntsAt w us s) (hh : IntsAt w uh h) (ht : IntsAt w ut t) (hls : s.length ≤ 4000) (hlh : h.length ≤ 4000) (hlt : t.length ≤ 4000) (hms : ∀ z ∈ s, Mild z) (hmt : ∀ z ∈ t, Mild z) (hle : h.length ≤ s.length) (hk0 : k0 < s.length) (hhd : headsB s k0 h = true) (hz : ∀ j, j < k0 → headsB s j h = false) : Calls Try.prog 49 #[us, .agg #[uh, ut]] w (ShortPost s h t w) := by
  obtain ⟨As, cs, rfl, s1, s2, -⟩ := hs.open_
  obtain ⟨Ah, ch, rfl, -⟩ := hh.open_
  obtain ⟨At, ct, rfl, -⟩ := ht.open_
  have HSM : Hid (shortM s h t = some (mulW (invW t) ((rot s k0).drop h.length))) := Lib.hid (by unfold shortM; rw [if_pos hle, find_some hk0 hhd hz])
  have hs0 : (0 : Int) ≤ (s.length : Int) := Int.natCast_nonneg _
  have hh0 : (0 : Int) ≤ (h.length : Int) := Int.natCast_nonneg _
  have hs1 : (s.length : Int) ≤ 4000 := by omega
  have hh1 : (h.length : Int) ≤ 4000 := by omega
  have hle' : ¬ (s.length : Int) < (h.length : Int) := by omega
  have hnew := heap_alloc_new w (.cells #[.slice Ah h.length ch, .slice At t.length ct] 89)
  have hc := (cell_of2 hnew).1
  have hc2 := (cell_of2 hnew).2
  have HB : Hid (Below w.heap.size w (w.alloc (.cells #[.slice Ah h.length ch, .slice At t.length ct] 89))) := Lib.hid ((Below.refl _ _).alloc (Nat.le_refl _) _)
  have HH : Hid (∀ k q, k < s.length → Calls Try.prog 71 #[.slice As s.length cs, .int .i64 (k : Int), .slice Ah h.length ch] ((w.alloc (.cells #[.slice Ah h.length ch, .slice At t.length ct] 89)).drewN q) fun e w' => e = .returned (.bool (headsB s k h)) ∧ ∃ r, w' = ((w.alloc (.cells #[.slice Ah h.length ch, .slice At t.length ct] 89)).drewN q).drewN r) := Lib.hid fun k q hk => heads71_any _ _ _ s h k ((hs.below HB.out).drewN q) ((hh.below HB.out).drewN q) hk (by omega) (by omega)
  obtain ⟨A1, e1, i1⟩ := ints_cut (hs.below HB.out) (k := k0) (h := s.length) (by omega) (Nat.le_refl _)
  obtain ⟨A2, e2, i2⟩ := ints_cut (hs.below HB.out) (k := 0) (h := k0) (by omega) (by omega)
  rw [List.take_length] at i1
  rw [List.drop_zero] at i2
  simp only [Nat.sub_zero] at e2 i2
  have HE1 := Lib.hid e1
  have HE2 := Lib.hid e2
  have HI1 := Lib.hid i1
  have HI2 := Lib.hid i2
  have HT := Lib.hid (ht.below HB.out)
  have HRT : Hid (rot s k0 = s.drop k0 ++ s.take k0) := Lib.hid rfl
  have HRL : Hid ((rot s k0).length = s.length) := Lib.hid (by rw [HRT.out, List.length_append, List.length_drop, List.length_take]; omega)
  have HMR : Hid (∀ z ∈ rot s k0, Mild z) := Lib.hid (mild_rot hms k0)
  have HMT := Lib.hid hmt
  have HMI : Hid (∀ z ∈ invW t, Mild z) := Lib.hid fun z hz => mild_inv' hmt z (Ct.red_mem hz)
  have HLI : Hid ((invW t).length ≤ 4000) := Lib.hid (by have := red_length (inv t); rw [length_inv] at this; unfold invW; omega)
  have HF : Hid (Fits (rot s k0)) := Lib.hid (Mild.fits HMR.out)
  have H39 : Hid (∀ W v, Tab W v [s.drop k0, s.take k0] → Calls Try.prog 39 #[v] W fun e w'' => ∃ u, e = .returned u ∧ ((∃ A c, u = .slice A (rot s k0).length c ∧ IntsAt w'' u (rot s k0)) ∧ Below W.heap.size W w'')) := Lib.hid fun W v hv => by
    have hsum : sumTo [s.drop k0, s.take k0] 2 = s.length := by
      show 0 + (s.drop k0).length + (s.take k0).length = _
      rw [List.length_drop, List.length_take]; omega
    have h1 := concat100_any W v _ hv (by show sumTo [s.drop k0, s.take k0] 2 ≤ _; omega)
    refine h1.mono ?_
    rintro e w'' ⟨A, c, rfl, h3, h4⟩
    have hfl : flatTo [s.drop k0, s.take k0] [s.drop k0, s.take k0].length = rot s k0 := by
      show ([] ++ s.drop k0) ++ s.take k0 = _
      rw [List.nil_append]; rfl
    rw [hfl] at h3 ⊢
    exact ⟨_, rfl, ⟨A, c, rfl, OwnI.ints h3 HF.out⟩, h4⟩
  have H22 : Hid (∀ W u, IntsAt W u t → Calls Try.prog 22 #[u] W fun e w'' => ∃ v, e = .returned v ∧ ((∃ A c, v = .slice A (invW t).length c ∧ IntsAt w'' v (invW t)) ∧ Below W.heap.size W w'')) := Lib.hid fun W u h1 => (invert72_any W u t h1 hmt (by omega)).mono fun e w'' ⟨A, c, e1, h4, h5⟩ => ⟨_, e1, ⟨A, c, rfl, OwnI.ints h4 (Mild.fits HMI.out)⟩, h5⟩
  have H21 : Hid (∀ W u v, Below w.heap.size w W → IntsAt W u (invW t) → IntsAt W v ((rot s k0).drop h.length) → Calls Try.prog 21 #[u, v] W fun e w'' => ∃ v, e = .returned v ∧ ((∃ A c, v = .slice A (mulW (invW t) ((rot s k0).drop h.length)).length c ∧ OwnI w.heap.size w'' v (mulW (invW t) ((rot s k0).drop h.length))) ∧ Below W.heap.size W w'')) := Lib.hid fun W u v hb h1 h2 => (mul41_any W u v _ _ h1 h2 HMI.out (fun z hz => HMR.out z (List.mem_of_mem_drop hz)) (by have h1 := HLI.out; have h2 := HRL.out; rw [List.length_drop]; omega)).mono fun e w'' ⟨A, c, e1, h6, h7⟩ => ⟨_, e1, ⟨A, c, rfl, owns_base h6 hb.size⟩, h7⟩
  have HHD := Lib.hid hhd
  have HZ := Lib.hid hz
  have hkc : k0 ≤ cs := by omega
  clear hs hh ht hnew e1 e2 i1 i2 hms hmt hhd hz s1 s2
  go_enter Try.func49, Try.ntmps49
  go_wp2_with fail
  generalize hw1 : w.alloc (.cells #[.slice Ah h.length ch, .slice At t.length ct] 89) = w1 at *
  clear hw1
  have HC1 := Lib.hid hc
  have HC2 := Lib.hid hc2
  go_loopw [6, 7, 16] (fun _ _ z wr => ∃ k : Nat, k ≤ k0 ∧ z = .int .i64 k ∧ ∃ q, wr = w1.drewN q) (fun _ _ z _ => s.length - (intOf z).toNat)
  case atStart => exact ⟨0, Nat.zero_le _, rfl, 0, rfl⟩
  case round =>
    obtain ⟨k, hk, rfl, q, rfl⟩ := hrel
    have hkk : (0 : Int) ≤ (k : Int) := Int.natCast_nonneg _
    have hks : (k : Int) < (s.length : Int) := by omega
    by_cases hlt : k < k0
    · have hC := HH.out k q (by omega)
      rw [HZ.out k hlt] at hC
      have HC := Lib.hid hC
      clear hC
      go_wp2_with (go_at_call 71; (refine HC.out.mono ?_); rintro e w' ⟨rfl, r, rfl⟩)
      go_roundw
      case rel => exact ⟨k + 1, by omega, by go_num, (by first | exact ⟨_, rfl⟩ | exact ex_drewN)⟩
      case measure => simp [intOf]; omega
    · obtain rfl : k = k0 := by omega
      have hC := HH.out k q hk0
      rw [HHD.out] at hC
      have HC := Lib.hid hC
      clear hC hlt
      go_wp2_with (go_at_call 71; (refine HC.out.mono ?_); rintro e w' ⟨rfl, r, rfl⟩)
      refine (wpIn_wide (n := 3)).1 ?_
      refine wpIn_region_all (by kernel_rfl) 9 rfl (fun i => if i < 8 then some (24 + i) else some 7) (lex_of (by kernel_rfl)) (fun _ W => Below w1.heap.size w1 W)
        (fun i v W => (([.eq (.slice As s.length cs), .eq (.int .i64 (k : Int)), .eq (.slice A1 (s.length - k) (cs - k)), .eq (.slice As s.length cs), .eq (.int .i64 (k : Int)), .eq (.slice A2 k cs), .tab [s.drop k, s.take k], .ints (rot s k), .ints (rot s k)] : List SlO).getD i (.eq undef)).holds v W)
        (fun _ W W' => Below W.heap.size W W') (dm_inj (by kernel_rfl)) (fun i j v W W' _ _ _ h => SlO.keep h) (dm_lt (n := 42) (by kernel_rfl)) (by first | exact below_drewN (below_drewN (Below.refl _ _) _) _ | exact (below_drewN (Below.refl _ _) _).drew) ?_ ?_
      · intro ls q o a w3 hq ho hS hls hcl hP hpre
        have hcases : q = 0 ∨ q = 1 ∨ q = 2 ∨ q = 3 ∨ q = 4 ∨ q = 5 ∨ q = 6 ∨ q = 7 ∨ q = 8 := by
          have : q < 9 := hq
          omega
        rcases hcases with rfl | rfl | rfl | rfl | rfl | rfl | rfl | rfl | rfl
        · obtain rfl := Option.some.inj ho
          exact wpOpIn_of rfl rfl (wpW_val (r_move (.tmp 0) rfl (hP.out 0 (dm_out (by kernel_rfl)))) ⟨_, rfl, hS, Below.refl _ _, (fun h => by simp at h), rfl⟩)
        · obtain rfl := Option.some.inj ho
          exact wpOpIn_of rfl rfl (wpW_val (r_move (.tmp 6) rfl (hP.out 6 (dm_out (by kernel_rfl)))) ⟨_, rfl, hS, Below.refl _ _, (fun h => by simp at h), rfl⟩)
        · obtain rfl := Option.some.inj ho
          exact wpOpIn_of rfl rfl (wpW_val ((run_sl_lo under24w size24w (.tmp 24) (.tmp 25) As s.length cs k rfl (hpre ⟨0, .data⟩ (by simp) rfl).2 (hpre ⟨1, .data⟩ (by simp) rfl).2 (by omega)).trans (congrArg (fun v => Result.ok (Next.value v) _) HE1.out)) ⟨_, rfl, hS, Below.refl _ _, (fun h => by simp at h), rfl⟩)
        · obtain rfl := Option.some.inj ho
          exact wpOpIn_of rfl rfl (wpW_val (r_move (.tmp 0) rfl (hP.out 0 (dm_out (by kernel_rfl)))) ⟨_, rfl, hS, Below.refl _ _, (fun h => by simp at h), rfl⟩)
        · obtain rfl := Option.some.inj ho
          exact wpOpIn_of rfl rfl (wpW_val (r_move (.tmp 6) rfl (hP.out 6 (dm_out (by kernel_rfl)))) ⟨_, rfl, hS, Below.refl _ _, (fun h => by simp at h), rfl⟩)
        · obtain rfl := Option.some.inj ho
          exact wpOpIn_of rfl rfl (wpW_val ((run_sl_hi under24w size24w (.tmp 27) (.tmp 28) As s.length cs k rfl (hpre ⟨3, .data⟩ (by simp) rfl).2 (hpre ⟨4, .data⟩ (by simp) rfl).2 hkc).trans (congrArg (fun v => Result.ok (Next.value v) _) HE2.out)) ⟨_, rfl, hS, Below.refl _ _, (fun h => by simp at h), rfl⟩)
        · obtain rfl := Option.some.inj ho
          have hal : Below w3.heap.size w3 (w3.alloc (.cells #[.slice A1 (s.length - k) (cs - k), .slice A2 k cs] 24)) := (Below.refl _ _).alloc (Nat.le_refl _) _
          exact wpOpIn_of rfl rfl (wpW_val (r_bs25 (.tmp 26) (.tmp 29) A1 A2 _ _ _ _ rfl (hpre ⟨2, .data⟩ (by simp) rfl).2 (hpre ⟨5, .data⟩ (by simp) rfl).2) ⟨_, rfl, hS.trans (hal.mono hS.size), hal, (fun h => by simp at h), tab_blk (us := [.slice A1 (s.length - k) (cs - k), .slice A2 k cs]) (xs := [s.drop k, s.take k]) (heap_alloc_new w3 _) rfl rfl (by simp) (fun i hi => by
            have hi2 : i = 0 ∨ i = 1 := by simp at hi; omega
            rcases hi2 with rfl | rfl
            · exact (HI1.out.below hS).below hal
            · exact (HI2.out.below hS).below hal)⟩)
        · obtain rfl := Option.some.inj ho
          exact wpOpIn_of rfl rfl (wpW_call (r_call1 (.tmp 30) _ _ rfl rfl call39') (H39.out w3 _ (hpre ⟨6, .data⟩ (by simp) rfl).2) fun v w4 hR => ⟨v, rfl, hS.trans (hR.2.mono hS.size), hR.2, (fun h => by simp at h), hR.1⟩)
        · obtain rfl := Option.some.inj ho
          exact wpOpIn_of rfl rfl (wpW_val (r_assign (.tmp 31) rfl rfl) ⟨_, rfl, hS, Below.refl _ _, (fun h => by simp at h), (hpre ⟨7, .data⟩ (by simp) rfl).2⟩)
      · intro ls a w3 hall hS hP hsl
        obtain ⟨A5, c5, e5, g5⟩ := hsl 8 (by decide)
        rw [e5] at g5
        obtain ⟨vs, hvs, hfr⟩ := hP.frame 42 rfl
        have e6 : vs 7 = .slice A5 (rot s k).length c5 := (hvs 7).trans e5
        obtain ⟨A6, e7, i7⟩ := ints_cut g5 (k := h.length) (h := (rot s k).length) (by rw [HRL.out]; exact hle) (Nat.le_refl _)
        rw [List.take_length] at i7
        have HE7 := Lib.hid e7
        have HI7 := Lib.hid i7
        have HS := Lib.hid hS
        have hhl : h.length ≤ (rot s k).length := by rw [HRL.out]; exact hle
        have HCA : Hid (∀ W, Below w1.heap.size w1 W → W.cell? ⟨w.heap.size, 0, none⟩ = some (.slice Ah h.length ch) ∧ W.cell? ⟨w.heap.size, 1, none⟩ = some (.slice At t.length ct)) := Lib.hid fun W hb => ⟨(hb.cell (p := ⟨w.heap.size, 0, none⟩) (World.block_lt_of_cell? _ _ HC1.out)).trans HC1.out, (hb.cell (p := ⟨w.heap.size, 1, none⟩) (World.block_lt_of_cell? _ _ HC2.out)).trans HC2.out⟩
        clear hsl hP hall hvs g5 hS e5 e7 i7 hc hc2
        subst hfr
        simp only [List.range, List.range.loop, List.map_cons, List.map_nil, List.any_cons, List.any_nil, Nat.reduceAdd, Nat.reduceBEq, Nat.reduceLT, Option.some_beq_some, Bool.or_false, if_true, if_false, List.getD_cons_zero, List.getD_cons_succ, Bool.or_true, Bool.false_eq_true]
        rw [e6]
        go_wp2_with fail
        refine (wpIn_wide (n := 3)).1 ?_
        refine wpIn_region_all (by kernel_rfl) 11 rfl (fun i => if i < 9 then some (32 + i) else if i = 9 then some 4 else some 5) (lex_of (by kernel_rfl)) (fun _ W => Below w3.heap.size w3 W)
          (fun i v W => (([.eq (.pointer (some ⟨w.heap.size, 1, none⟩)), .eq (.slice At t.length ct), .ints (invW t), .eq (.slice A5 (rot s k).length c5), .eq (.pointer (some ⟨w.heap.size, 0, none⟩)), .eq (.slice Ah h.length ch), .eq (.int .i64 (h.length : Int)), .eq (.slice A6 ((rot s k).length - h.length) (c5 - h.length)), .own w.heap.size (mulW (invW t) ((rot s k).drop h.length)), .own w.heap.size (mulW (invW t) ((rot s k).drop h.length)), .eq (.bool true)] : List SlO).getD i (.eq undef)).holds v W)
          (fun _ W W' => Below W.heap.size W W') (dm_inj (by kernel_rfl)) (fun i j v W W' _ _ _ h => SlO.keep h) (dm_lt (n := 42) (by kernel_rfl)) (Below.refl _ _).drew ?_ ?_
        · intro ls2 q2 o a2 w4 hq ho hS hls hcl hP hpre
          have hS1 : Below w1.heap.size w1 w4 := HS.out.trans (hS.mono HS.out.size)
          have hcases : q2 = 0 ∨ q2 = 1 ∨ q2 = 2 ∨ q2 = 3 ∨ q2 = 4 ∨ q2 = 5 ∨ q2 = 6 ∨ q2 = 7 ∨ q2 = 8 ∨ q2 = 9 ∨ q2 = 10 := by
            have : q2 < 11 := hq
            omega
          rcases hcases with rfl | rfl | rfl | rfl | rfl | rfl | rfl | rfl | rfl | rfl | rfl
          · obtain rfl := Option.some.inj ho
            exact wpOpIn_of rfl rfl (wpW_val (r_fld (.tmp 3) _ rfl (hP.out 3 (dm_out (by kernel_rfl))) (fld89_1 w.heap.size _)) ⟨_, rfl, hS, Below.refl _ _, (fun h => by simp at h), rfl⟩)
          · obtain rfl := Option.some.inj ho
            exact wpOpIn_of rfl rfl (wpW_val (r_ld24 (.tmp 32) ⟨w.heap.size, 1, none⟩ rfl (hpre ⟨0, .data⟩ (by simp) rfl).2 (HCA.out _ hS1).2) ⟨_, rfl, hS, Below.refl _ _, (fun h => by simp at h), rfl⟩)
          · obtain rfl := Option.some.inj ho
            exact wpOpIn_of rfl rfl (wpW_call (r_call1 (.tmp 33) _ _ rfl (hpre ⟨1, .data⟩ (by simp) rfl).2 call22) (H22.out w4 _ (HT.out.below hS1)) fun v w5 hR => ⟨v, rfl, hS.trans (hR.2.mono hS.size), hR.2, (fun h => by simp at h), hR.1⟩)
          · obtain rfl := Option.some.inj ho
            exact wpOpIn_of rfl rfl (wpW_val (r_move (.tmp 7) rfl (hP.out 7 (dm_out (by kernel_rfl)))) ⟨_, rfl, hS, Below.refl _ _, (fun h => by simp at h), rfl⟩)
          · obtain rfl := Option.some.inj ho
            exact wpOpIn_of rfl rfl (wpW_val (r_fld (.tmp 3) _ rfl (hP.out 3 (dm_out (by kernel_rfl))) (fld89_0 w.heap.size _)) ⟨_, rfl, hS, Below.refl _ _, (fun h => by simp at h), rfl⟩)
          · obtain rfl := Option.some.inj ho
            exact wpOpIn_of rfl rfl (wpW_val (r_ld24 (.tmp 36) ⟨w.heap.size, 0, none⟩ rfl (hpre ⟨4, .data⟩ (by simp) rfl).2 (HCA.out _ hS1).1) ⟨_, rfl, hS, Below.refl _ _, (fun h => by simp at h), rfl⟩)
          · obtain rfl := Option.some.inj ho
            exact wpOpIn_of rfl rfl (wpW_val (r_len (.tmp 37) 24 Ah h.length ch Try.underlying24 rfl (hpre ⟨5, .data⟩ (by simp) rfl).2) ⟨_, rfl, hS, Below.refl _ _, (fun h => by simp at h), rfl⟩)
          · obtain rfl := Option.some.inj ho
            exact wpOpIn_of rfl rfl (wpW_val ((run_sl_lo under24w size24w (.tmp 35) (.tmp 38) A5 (rot s k).length c5 h.length rfl (hpre ⟨3, .data⟩ (by simp) rfl).2 (hpre ⟨6, .data⟩ (by simp) rfl).2 hhl).trans (congrArg (fun v => Result.ok (Next.value v) _) HE7.out)) ⟨_, rfl, hS, Below.refl _ _, (fun h => by simp at h), rfl⟩)
          · obtain rfl := Option.some.inj ho
            obtain ⟨B1, d1, f1, g1⟩ := (hpre ⟨2, .data⟩ (by simp) rfl).2
            have f2 := (hpre ⟨7, .data⟩ (by simp) rfl).2
            exact wpOpIn_of rfl rfl (wpW_call (r_call2 (.tmp 34) (.tmp 39) _ _ _ rfl rfl f2 call21) (H21.out w4 _ _ (HB.out.trans (hS1.mono HB.out.size)) g1 (HI7.out.below hS)) fun v w5 hR => ⟨v, rfl, hS.trans (hR.2.mono hS.size), hR.2, (fun h => by simp at h), hR.1⟩)
          · obtain rfl := Option.some.inj ho
            exact wpOpIn_of rfl rfl (wpW_val (r_assign (.tmp 40) rfl rfl) ⟨_, rfl, hS, Below.refl _ _, (fun h => by simp at h), (hpre ⟨8, .data⟩ (by simp) rfl).2⟩)
          · obtain rfl := Option.some.inj ho
            exact wpOpIn_of rfl rfl (wpW_val (r_assign (.const (.bool true)) rfl rfl) ⟨_, rfl, hS, Below.refl _ _, (fun h => by simp at h), rfl⟩)
        · intro ls2 a2 w4 hall hS hP hsl
          obtain ⟨A9, c9, e9, g9⟩ := hsl 9 (by decide)
          have e10 := hsl 10 (by decide)
          rw [e9] at g9
          obtain ⟨vs2, hvs2, hfr2⟩ := hP.frame 42 rfl
          have e4 : vs2 4 = .slice A9 (mulW (invW t) ((rot s k).drop h.length)).length c9 := (hvs2 4).trans e9
          have e5 : vs2 5 = .bool true := (hvs2 5).trans e10
          have HG := Lib.hid g9
          have HBF : Hid (Below w.heap.size w w4) := Lib.hid (HB.out.trans ((HS.out.trans (hS.mono HS.out.size)).mono HB.out.size))
          clear hsl hP hall hvs2 g9 hS e9 e10
          subst hfr2
          simp only [List.range, List.range.loop, List.map_cons, List.map_nil, List.any_cons, List.any_nil, Nat.reduceAdd, Nat.reduceBEq, Nat.reduceLT, Option.some_beq_some, Bool.or_false, if_true, if_false, List.getD_cons_zero, List.getD_cons_succ, Bool.false_or, Bool.or_true, Bool.true_or]
          rw [e4, e5]
          go_wp2_with fail
          go_ret2
          unfold ShortPost
          rw [HSM.out]
          exact ⟨⟨A9, c9, rfl, HG.out⟩, HBF.out⟩
end Go.Proofs
namespace Go.Proofs
open Go.RowKit Go.Shelf Go.Lib Go.Sort Go.Proofs.Ct Go.Proofs.Tz Go.Maps
theorem shortM_shortW {s w : List Int} (h : w ≠ []) : shortM s (w.take (w.length / 2 + 1)) (w.drop (w.length / 2 + 1)) = shortW s w := by
  have h0 : w.length ≠ 0 := fun e => h (List.eq_nil_of_length_eq_zero e)
  have hl : (w.take (w.length / 2 + 1)).length = w.length / 2 + 1 := by rw [List.length_take]; omega
  unfold shortM shortW
  rw [hl]
  rfl
/-- a word shortened by the head and the tail of another one -/
theorem shorter49_any (w : World) (us uh ut : Value) (s h t : List Int) (hs : IntsAt w us s) (hh : IntsAt w uh h) (ht : IntsAt w ut t) (hls : s.length ≤ 4000) (hlh : h.length ≤ 4000) (hlt : t.length ≤ 4000) (hms : ∀ z ∈ s, Mild z) (hmt : ∀ z ∈ t, Mild z) : Calls Try.prog 49 #[us, .agg #[uh, ut]] w (ShortPost s h t w) := by
  cases hm : shortM s h t with
  | none => exact shorter49_none w us uh ut s h t hs hh ht hls hlh hm
  | some x =>
    unfold shortM at hm
    split at hm
    · rename_i hle
      cases hf : (List.range s.length).find? (fun k => headsB s k h) with
      | none => rw [hf] at hm; cases hm
      | some k =>
        obtain ⟨h1, h2, h3⟩ := List.find?_range_eq_some.1 hf
        exact shorter49_some w us uh ut s h t k hs hh ht hls hlh hlt hms hmt hle (List.mem_range.1 h2) h1 fun j hj => by simpa using h3 j hj
    · cases hm
end Go.Proofs
namespace Go.Proofs
open Go.Proofs.Ct Go.Proofs.Tz
/-- the first k images: each generator itself, its number lowered -/
def imTo (n gen k : Nat) : List (List Int) := (List.range k).map (fun (i : Nat) => lowW gen [(i : Int) + 1]) ++ List.replicate (n - k) []
theorem imTo_zero (n gen : Nat) : imTo n gen 0 = List.replicate n [] := by simp [imTo]
theorem imTo_len {n gen k : Nat} (hk : k ≤ n) : (imTo n gen k).length = n := by
  unfold imTo
  rw [List.length_append, List.length_map, List.length_range, List.length_replicate]
  omega
theorem imTo_succ {n gen k : Nat} (hk : k < n) : (imTo n gen k).set k (lowW gen [(k : Int) + 1]) = imTo n gen (k + 1) := by
  unfold imTo
  obtain ⟨m, hm⟩ : ∃ m, n - k = m + 1 := ⟨n - k - 1, by omega⟩
  rw [hm, show n - (k + 1) = m by omega, List.set_append_right _ _ (by rw [List.length_map, List.length_range]; omega), List.length_map, List.length_range, Nat.sub_self, List.replicate_succ, List.set_cons_zero, List.range_succ, List.map_append, List.append_assoc]
  rfl
theorem imTo_done {n gen : Nat} (hg : 1 ≤ gen ∧ gen ≤ n) (v : List Int) : (imTo n gen n).set (gen - 1) (lowW gen v) = imgsW n gen v := by
  have h1 : imTo n gen n = (List.range n).map (fun (i : Nat) => lowW gen [(i : Int) + 1]) := by unfold imTo; rw [Nat.sub_self]; simp
  rw [h1]
  apply List.ext_getElem
  · rw [List.length_set, List.length_map, List.length_range, length_imgs]
  · intro i hi1 hi2
    rw [length_imgs] at hi2
    have e : (imgsW n gen v)[i] = if i + 1 = gen then lowW gen v else lowW gen [(i : Int) + 1] := by simp [imgsW]
    rw [e]
    by_cases h : i + 1 = gen
    · subst h
      rw [if_pos rfl]
      simp
    · rw [if_neg h, List.getElem_set_ne (by omega)]
      simp
end Go.Proofs
namespace Go.Proofs
open Go.RowKit Go.Shelf Go.Proofs.Ct Go.Maps
/-- what an operation may do: it turns blocks of the slots that it takes alone, and makes new ones -/
structure Step (N : Nat) (wr : Nat → Bool) (us : Nat → Nat → Bool) (O : Nat → Nat → Prop) (i : Nat) (O' : Nat → Prop) (w w' : World) : Prop where
  size : w.heap.size ≤ w'.heap.size
  keep : ∀ k, k < w.heap.size → (∀ j, j < N → us i j = true → wr j = true → ¬ O j k) → w'.heap[k]? = w.heap[k]?
  foot : ∀ k, O' k → k < w'.heap.size ∧ (w.heap.size ≤ k ∨ ∃ j, j < N ∧ us i j = true ∧ O j k ∧ (wr i = true → wr j = true))
section
variable {F : Fence} {n : Nat} {P : Program} {ops : Array Oper} {Q : Exit → Act → World → Prop}
end
end Go.Proofs
namespace Go.Proofs
open Go.RowKit Go.Shelf Go.Proofs.Ct Go.Maps
/-- u reads as the rows ys by the blocks of F -/
def TabS (F : Nat → Prop) (w : World) (u : Value) (ys : List (List Int)) : Prop := ∃ vs, (∀ w', Ag F w w' → Sl w' u vs) ∧ RowsF F w vs ys
/-- reading alone -/
def RdT (F : Nat → Prop) (w : World) (u : Value) (ys : List (List Int)) : Prop := ∀ w', Ag F w w' → Tab w' u ys
section
variable {F G : Nat → Prop} {w w' : World} {u : Value} {ys : List (List Int)}
theorem TabS.keep (h : TabS F w u ys) (ha : Ag F w w') : TabS F w' u ys := by
  obtain ⟨vs, h1, h2⟩ := h
  exact ⟨vs, fun w'' h' => h1 w'' (ha.trans h'), h2.keep ha fun _ h => h⟩
theorem TabS.mono (h : TabS F w u ys) (hg : ∀ k, F k → G k) : TabS G w u ys := by
  obtain ⟨vs, h1, h2⟩ := h
  exact ⟨vs, fun w' h' => h1 w' fun k hk => h' k (hg k hk), h2.keep (Ag.refl _ _) hg⟩
theorem TabS.tab (h : TabS F w u ys) : Tab w u ys := by
  obtain ⟨vs, h1, h2⟩ := h
  exact ⟨vs, h1 w (Ag.refl _ _), h2.1, fun i hi => let ⟨x, hx, hr⟩ := h2.2 i hi; ⟨x, hx, hr.at_⟩⟩
theorem TabS.rd (h : TabS F w u ys) : RdT F w u ys := fun _ ha => (h.keep ha).tab
theorem RdT.keep (h : RdT F w u ys) (ha : Ag F w w') : RdT F w' u ys := fun w'' h' => h w'' (ha.trans h')
theorem RdT.mono (h : RdT F w u ys) (hg : ∀ k, F k → G k) : RdT G w u ys := fun w' h' => h w' fun k hk => h' k (hg k hk)
theorem RdT.tab (h : RdT F w u ys) : Tab w u ys := h w (Ag.refl _ _)
theorem TabS.of_own {e : TypeId} {base : Nat} (h : OwnT e base F w u ys) (hv : ∀ r, u.ownBlock = some r → G r) (hg : ∀ k, F k → G k) : TabS G w u ys := by
  obtain ⟨vs, h1, h2⟩ := h
  exact ⟨vs, fun w' ha => sl_of_owns (owns_keep h1 fun r hr => ha r (hv r hr)), h2.keep (Ag.refl _ _) hg⟩
end
/-- what a slot holds -/
inductive FP where
  | any | eq (v : Value) | ints (l : List Int) | tab (l : List (List Int)) | rd (l : List (List Int)) | own (l : List Int) | ownT (l : List (List Int)) | box (e : TypeId) (cs : Array Value) | enum (t : List (List Int)) (a b c : Int) | tup (l : List Int) (e : Int) | tupT (l : List (List Int)) (e : Int)
def Fb (base : Nat) (O : Nat → Prop) : Nat → Prop := fun k => k < base ∨ O k
def FP.holds (base : Nat) : FP → Value → (Nat → Prop) → World → Prop
  | .any, _, _, _ => True
  | .eq u, v, _, _ => v = u
  | .ints l, v, O, w => ∃ A c, v = .slice A l.length c ∧ IntsF (Fb base O) w (.slice A l.length c) l
  | .tab l, v, O, w => ∃ A c, v = .slice A l.length c ∧ TabS (Fb base O) w (.slice A l.length c) l
  | .rd l, v, O, w => ∃ A c, v = .slice A l.length c ∧ RdT (Fb base O) w (.slice A l.length c) l
  | .own l, v, O, w => ∃ A c, v = .slice A l.length c ∧ OwnI base w (.slice A l.length c) l ∧ ∀ r, (Value.slice A l.length c).ownBlock = some r → O r
  | .ownT l, v, O, w => ∃ A c F, v = .slice A l.length c ∧ OwnT 24 base F w (.slice A l.length c) l ∧ (∀ k, F k → Fb base O k ∧ k < w.heap.size ∧ (Value.slice A l.length c).ownBlock ≠ some k) ∧ ∀ r, (Value.slice A l.length c).ownBlock = some r → O r
  | .box e cs, v, O, w => ∃ q, v = .pointer (some ⟨q, 0, none⟩) ∧ O q ∧ w.heap[q]? = some (.cells cs e (0, 0))
  | .enum t a b c, v, O, w => ∃ A n, v = .tuple #[.slice A t.length n, .agg #[.int .i64 a, .int .i64 b, .int .i64 0], .int .i64 c] ∧ RdT (Fb base O) w (.slice A t.length n) t
  | .tup l e, v, O, w => ∃ A n, v = .tuple #[.slice A l.length n, .int .i64 e] ∧ IntsF (Fb base O) w (.slice A l.length n) l
  | .tupT l e, v, O, w => ∃ A n, v = .tuple #[.slice A l.length n, .int .i64 e] ∧ RdT (Fb base O) w (.slice A l.length n) l
section
variable {base : Nat} {O O' : Nat → Prop} {W0 w w' : World} {v : Value}
theorem ag_fb (_hb : W0.heap.size = base) (h1 : Below base W0 w) (h2 : Below base W0 w') (h : ∀ k, O k → w'.heap[k]? = w.heap[k]?) : Ag (Fb base O) w w' := fun k hk => by
  rcases hk with hk | hk
  · rw [h1.block k (by omega), h2.block k (by omega)]
  · exact h k hk
theorem FP.keep {p : FP} (hb : W0.heap.size = base) (h1 : Below base W0 w) (h2 : Below base W0 w') (hs : w.heap.size ≤ w'.heap.size) (h : ∀ k, O k → w'.heap[k]? = w.heap[k]?) : p.holds base v O w → p.holds base v O w' := by
  have ha := ag_fb hb h1 h2 h
  cases p with
  | any => exact id
  | eq u => exact id
  | ints l => exact fun ⟨A, c, e, k⟩ => ⟨A, c, e, k.keep ha⟩
  | tab l => exact fun ⟨A, c, e, k⟩ => ⟨A, c, e, k.keep ha⟩
  | rd l => exact fun ⟨A, c, e, k⟩ => ⟨A, c, e, k.keep ha⟩
  | own l => exact fun ⟨A, c, e, k, k2⟩ => ⟨A, c, e, owns_keep k fun r hr => h r (k2 r hr), k2⟩
  | ownT l => exact fun ⟨A, c, F, e, k, k2, k3⟩ => ⟨A, c, F, e, k.keep (fun r hr => h r (k3 r hr)) (fun x hx => ha x (k2 x hx).1) (fun _ h => h), fun x hx => ⟨(k2 x hx).1, Nat.lt_of_lt_of_le (k2 x hx).2.1 hs, (k2 x hx).2.2⟩, k3⟩
  | box e cs => exact fun ⟨q, e, k, k2⟩ => ⟨q, e, k, (h q k).trans k2⟩
  | enum t a b c => exact fun ⟨A, n, e, k⟩ => ⟨A, n, e, k.keep ha⟩
  | tup l x => exact fun ⟨A, n, e, k⟩ => ⟨A, n, e, k.keep ha⟩
  | tupT l x => exact fun ⟨A, n, e, k⟩ => ⟨A, n, e, k.keep ha⟩
theorem FP.mono {p : FP} (hO : ∀ k, O k → O' k) : p.holds base v O w → p.holds base v O' w := by
  have hF : ∀ k, Fb base O k → Fb base O' k := fun k hk => hk.imp id (hO k)
  cases p with
  | any => exact id
  | eq u => exact id
  | ints l => exact fun ⟨A, c, e, k⟩ => ⟨A, c, e, k.mono hF⟩
  | tab l => exact fun ⟨A, c, e, k⟩ => ⟨A, c, e, k.mono hF⟩
  | rd l => exact fun ⟨A, c, e, k⟩ => ⟨A, c, e, k.mono hF⟩
  | own l => exact fun ⟨A, c, e, k, k2⟩ => ⟨A, c, e, k, fun r hr => hO r (k2 r hr)⟩
  | ownT l => exact fun ⟨A, c, F, e, k, k2, k3⟩ => ⟨A, c, F, e, k, fun x hx => ⟨hF x (k2 x hx).1, (k2 x hx).2⟩, fun r hr => hO r (k3 r hr)⟩
  | box e cs => exact fun ⟨q, e, k, k2⟩ => ⟨q, e, hO q k, k2⟩
  | enum t a b c => exact fun ⟨A, n, e, k⟩ => ⟨A, n, e, k.mono hF⟩
  | tup l x => exact fun ⟨A, n, e, k⟩ => ⟨A, n, e, k.mono hF⟩
  | tupT l x => exact fun ⟨A, n, e, k⟩ => ⟨A, n, e, k.mono hF⟩
end
/-- all that an operation may claim as its own -/
def Mx (N : Nat) (wr : Nat → Bool) (us : Nat → Nat → Bool) (O : Nat → Nat → Prop) (i : Nat) (w w' : World) : Nat → Prop := fun k => k < w'.heap.size ∧ (w.heap.size ≤ k ∨ ∃ j, j < N ∧ us i j = true ∧ O j k ∧ (wr i = true → wr j = true))
section
variable {N : Nat} {wr : Nat → Bool} {us : Nat → Nat → Bool} {O : Nat → Nat → Prop} {i : Nat} {w w' : World}
theorem Step.below (h : Below w.heap.size w w') : Step N wr us O i (Mx N wr us O i w w') w w' := ⟨h.size, fun k hk _ => h.block k hk, fun _ h => h⟩
theorem Step.same : Step N wr us O i (Mx N wr us O i w w) w w := Step.below (Below.refl _ _)
theorem Step.grown {row : Option Nat} (h : w.grownBy w' row) (hr : ∀ r, row = some r → ∃ j, j < N ∧ us i j = true ∧ wr j = true ∧ O j r) : Step N wr us O i (Mx N wr us O i w w') w w' := ⟨h.size, fun k hk hn => h.block k hk fun e => by
  obtain ⟨j, h1, h2, h3, h4⟩ := hr k e.symm
  exact hn j h1 h2 h3 h4, fun _ h => h⟩
end
section
variable {o : Oper} {a : Act} {w w' : World} {n : Nat} {v : Value}
theorem r_extract (k : Nat) (x : Operand) (vs : Array Value) (ho : o.op = .extract x k) (hx : a.eval x = .tuple vs) (hk : vs[k]? = some v) : (execOp a.eval o).run Try.prog w = .ok (.value v) w := by
  unfold execOp
  simp only [ho, hx]
  simp [go_sem, hk]
end
theorem FP.app_ints {t ty : TypeId} (ht : Try.prog.underlying t = some (.slice 3)) {w : World} {base : Nat} {O1 : Nat → Prop} {v : Value} {xs : List Int} (h : (FP.own xs).holds base v O1 w) {u : Value} {ys : List Int} (hu : IntsAt w u ys)
    (hx : xs.length ≤ 1000000) (hy : ys.length ≤ 1000000) (hb : base ≤ w.heap.size) :
    ∃ A' c' w', (Builtin.append_ #[t, t] ty #[v, u]).run Try.prog w = .ok (.slice A' (xs ++ ys).length c') w' ∧ w.grownBy w' v.ownBlock ∧ (∀ r, v.ownBlock = some r → O1 r ∧ base ≤ r) ∧
      ∀ O' : Nat → Prop, (∀ k, O1 k → k < w.heap.size → O' k) → (∀ k, w.heap.size ≤ k → k < w'.heap.size → O' k) → (FP.own (xs ++ ys)).holds base (.slice A' (xs ++ ys).length c') O' w' := by
  obtain ⟨A, c, rfl, o1, r1⟩ := h
  obtain ⟨A', c', w', hr, ho, hg, hw⟩ := Go.Proofs.app_ints ty t ht w base _ xs o1 u ys hu hx hy hb
  refine ⟨A', c', w', hr, hg, fun r hr => ⟨r1 r hr, (owns_block o1 r hr).1⟩, fun O' p1 p3 => ⟨A', c', rfl, ho, fun r hr => ?_⟩⟩
  rcases hw with hw | ⟨q, hw, hwq⟩
  · rw [hw] at hr
    exact p1 r (r1 r hr) (owns_lt o1 hr)
  · have e : q = r := by rw [hw] at hr; exact Option.some.inj hr
    subst e
    exact p3 q hwq (owns_lt ho hw)
end Go.Proofs
