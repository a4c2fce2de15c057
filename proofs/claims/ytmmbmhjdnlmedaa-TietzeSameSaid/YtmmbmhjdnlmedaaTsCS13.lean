/- word.Subst where it accepts; slices.Grow and slices.Concat at lists of rows; tietze.once; tietze.without; tietze.heads, tietze.Length; tietze.replace. -/
import Derived.Test.YtmmbmhjdnlmedaaTsCS12
import Derived.Test.YtmmbmhjdnlmedaaTsCS5
namespace Go.Proofs
open Go.RowKit Go.Shelf Go.Lib Go.Sort Go.Proofs.Ct Go.Proofs.Tz Go.Maps
theorem sub57_ok (W : World) (b n : Nat) (h : W.cell? ⟨b, 0, none⟩ = some (.int .u64 (n : Int))) (x : Int) (hx : Mild x) (h0 : x ≠ 0) (hn : x.natAbs ≤ n) : Calls Try.prog 57 #[.int .i64 x, .pointer (some ⟨b, 0, none⟩)] W fun e w' => e = .returned (.bool false) ∧ ∃ q, w' = W.drewN q := by
  have hd : (x == 0) = false := by simpa using h0
  have HZ := Lib.hid fun r => size58_any (W.drewN r) x hx
  have hc : ¬ (n : Int) < (x.natAbs : Int) := by omega
  have hc' : decide ((n : Int) < (x.natAbs : Int)) = false := decide_eq_false hc
  clear h0 hn hx
  generalize (x.natAbs : Int) = y at *
  go_enter Try.func57, Try.ntmps57
  go_wp2_with fail
  go_quiet ((go_at_call 58; exact Calls.quiet_of_same (HZ.out _)))
  go_wp2_with fail
  go_ret
  exact ⟨rfl, by first | exact ⟨_, rfl⟩ | exact ex_drewN⟩
theorem sbTo_succ (G : List (List Int)) (z : List Int) (k : Nat) : sbTo G z (k + 1) = mulW (sbTo G z k) (if 0 < z.getD k 0 then G.getD (z.getD k 0 - 1).toNat [] else inv (G.getD (-(z.getD k 0) - 1).toNat [])) := rfl
theorem mild_app {a b : List Int} (ha : ∀ z ∈ a, Mild z) (hb : ∀ z ∈ b, Mild z) : ∀ z ∈ a ++ b, Mild z := fun z hz => by
  rcases List.mem_append.1 hz with h | h
  · exact ha z h
  · exact hb z h
theorem mild_inv' {a : List Int} (ha : ∀ z ∈ a, Mild z) : ∀ z ∈ inv a, Mild z := mild_inv ha
theorem sbTo_mild {G : List (List Int)} (hG : ∀ j, ∀ z ∈ G.getD j [], Mild z) (x : List Int) : ∀ k, ∀ z ∈ sbTo G x k, Mild z
  | 0 => fun z hz => by cases hz
  | k + 1 => by
    have ih := sbTo_mild hG x k
    rw [sbTo_succ]
    intro z hz
    refine mild_app ih ?_ z (Ct.red_mem hz)
    split
    · exact hG _
    · exact mild_inv' (hG _)
theorem sbTo_len {G : List (List Int)} {m : Nat} (hG : ∀ j, (G.getD j []).length ≤ m) (x : List Int) : ∀ k, (sbTo G x k).length ≤ k * m
  | 0 => Nat.zero_le _
  | k + 1 => by
    have ih := sbTo_len hG x k
    rw [sbTo_succ, Nat.succ_mul]
    have h1 : ∀ y : List Int, y.length ≤ m → (mulW (sbTo G x k) y).length ≤ k * m + m := fun y hy => by
      have := red_length (sbTo G x k ++ y)
      rw [List.length_append] at this
      unfold mulW
      omega
    split
    · exact h1 _ (hG _)
    · exact h1 _ (by rw [length_inv]; exact hG _)
/-- a word with its letters replaced; an error where it is too long -/
def SubPost (x : List Int) (w : World) (e : Ending) (w' : World) : Prop :=
  (if x.length ≤ 4000 then ∃ A c, e = .returned (.tuple #[.slice A x.length c, .int .i64 0]) ∧ OwnI w.heap.size w' (.slice A x.length c) x else e = .returned (.tuple #[.slice none 0 0, .int .i64 4])) ∧ Below w.heap.size w w'
set_option maxRecDepth 100000 in
set_option maxHeartbeats 4000000 in
theorem subst42_ok (w : World) (u v : Value) (z : List Int) (G : List (List Int)) (hz : IntsAt w u z) (hG : Tab w v G) (hzl : z.length ≤ 4000) (hok : ∀ x ∈ z, Mild x ∧ x ≠ 0 ∧ x.natAbs ≤ G.length) (hm : ∀ j, ∀ y ∈ G.getD j [], Mild y) (hl : ∀ j, (G.getD j []).length ≤ 1000) : Calls Try.prog 42 #[u, v] w (SubPost (sbW G z) w) := by
  obtain ⟨Ag, cg, rfl⟩ := Tab.form hG
  obtain ⟨Az, cz, rfl, -⟩ := hz.open_
  have hgb : (G.length : Int) ≤ 9223372036854775807 := by
    obtain ⟨A', c', e', t1, t2, -⟩ := hG.open_
    omega
  have HS : Hid (sbW G z = sbTo G z z.length) := Lib.hid rfl
  have hz0 : (0 : Int) ≤ (z.length : Int) := Int.natCast_nonneg _
  have hg0 : (0 : Int) ≤ (G.length : Int) := Int.natCast_nonneg _
  have hzl' : (z.length : Int) ≤ 4000 := by omega
  have HB0 : Hid (Below w.heap.size w (w.alloc (.cells #[.int .u64 (G.length : Int)] 97))) := Lib.hid ((Below.refl _ _).alloc (Nat.le_refl _) _)
  have HP : Hid (Calls Try.prog 34 #[.slice Az z.length cz, .func (.func 57) #[] #[.pointer (some ⟨w.heap.size, 0, none⟩)]] (w.alloc (.cells #[.int .u64 (G.length : Int)] 97)) fun e w' => e = .returned (.bool false) ∧ ∃ q, w' = (w.alloc (.cells #[.int .u64 (G.length : Int)] 97)).drewN q) := Lib.hid (by
    have h1 := has74_any 57 #[.pointer (some ⟨w.heap.size, 0, none⟩)] (fun x => Mild x ∧ x ≠ 0 ∧ x.natAbs ≤ G.length) (fun _ => false) (w.alloc (.cells #[.int .u64 (G.length : Int)] 97)) (enters_of Try.func57 (by kernel_rfl) rfl)
      (fun x q hx => (sub57_ok ((w.alloc (.cells #[.int .u64 (G.length : Int)] 97)).drewN q) w.heap.size G.length (by
        have := heap_alloc_new w (.cells #[.int .u64 (G.length : Int)] 97)
        show (w.alloc (.cells #[.int .u64 (G.length : Int)] 97)).cell? _ = _
        rw [cell_of_row _ _ _ _ _ _ this]; rfl) x hx.1 hx.2.1 hx.2.2).mono fun e w' ⟨a, q', b⟩ => ⟨a, q + q', by rw [b, World.drewN_drewN]⟩)
      (.slice Az z.length cz) z (hz.below HB0.out) hok
    rwa [show z.any (fun _ => false) = false by simp] at h1)
  have HZ := Lib.hid hz
  have HG := Lib.hid hG
  have HOK : Hid (∀ j, j < z.length → Mild (z.getD j 0) ∧ z.getD j 0 ≠ 0 ∧ (z.getD j 0).natAbs ≤ G.length) := Lib.hid fun j hj => hok _ (by rw [List.getD_eq_getElem?_getD, List.getElem?_eq_getElem hj]; exact List.getElem_mem hj)
  have HM := Lib.hid hm
  have HL := Lib.hid hl
  clear hz hG hok hm hl
  go_enter Try.func42, Try.ntmps42
  go_wp2_with (go_at_call 34; (refine HP.out.mono ?_); rintro e w1 ⟨rfl, q, rfl⟩)
  generalize hw1 : w.alloc (.cells #[.int .u64 (G.length : Int)] 97) = w1 at *
  clear hw1 HP
  go_loopw [7, 9, 10, 19] (fun vo _ _ i wr => ∃ (k : Nat) (A : Option Addr) (c : Nat), k ≤ z.length ∧ i = .int .i64 k ∧ vo = .slice A (sbTo G z k).length c ∧ Hid (OwnI w.heap.size wr (.slice A (sbTo G z k).length c) (sbTo G z k)) ∧ Hid (Below w.heap.size w wr)) (fun _ _ _ i _ => z.length - (intOf i).toNat)
  case atStart => exact ⟨0, none, 0, Nat.zero_le _, rfl, rfl, Lib.hid (World.ownsRow_nil _ _ _ _), Lib.hid (by first | exact below_drewN HB0.out _ | exact HB0.out)⟩
  case round =>
    obtain ⟨k, A, c, hk, rfl, rfl, HO, HB⟩ := hrel
    have hk0 : (0 : Int) ≤ (k : Int) := Int.natCast_nonneg _
    have hsl := sbTo_len HL.out z k
    have hsl2 : k * 1000 ≤ 4000 * 1000 := Nat.mul_le_mul_right _ (by omega)
    by_cases hlt : k < z.length
    · have hlt' : (k : Int) < (z.length : Int) := by omega
      obtain ⟨hx1, hx2, hx3⟩ := HOK.out k hlt
      obtain ⟨A1, c1, e1, -, -, hcc0⟩ := (HZ.out.below HB.out).open_
      injection e1 with e1 _ e3
      subst e1 e3
      obtain ⟨b, o, rfl, hcc⟩ := hcc0 (by omega)
      have hcx := hcc k hlt
      obtain ⟨m, hmx⟩ : ∃ m, m + 1 = (z.getD k 0).natAbs := ⟨(z.getD k 0).natAbs - 1, by omega⟩
      obtain ⟨A2, c2, e2, -, -, t3⟩ := (kept_tab.below HG.out HB.out).open_
      injection e2 with e2 _ e4
      subst e2 e4
      obtain ⟨bg, og, rfl, hgg⟩ := t3 (by omega)
      obtain ⟨ug, hug, hI⟩ := hgg m (by omega)
      obtain ⟨Au, cu, rfl, -⟩ := hI.open_
      have HI := Lib.hid hI
      have HMY := Lib.hid (HM.out m)
      have HLY := Lib.hid (HL.out m)
      have HST : Hid (sbTo G z (k + 1) = red (sbTo G z k ++ (if 0 < z.getD k 0 then G.getD m [] else inv (G.getD m [])))) := Lib.hid (by
        rw [sbTo_succ]
        unfold mulW
        by_cases h : 0 < z.getD k 0
        · rw [if_pos h, if_pos h, show (z.getD k 0 - 1).toNat = m by omega]
        · rw [if_neg h, if_neg h, show (-(z.getD k 0) - 1).toNat = m by omega])
      have HMUL : Hid (∀ W u' (y : List Int), Below wr.heap.size wr W → IntsAt W u' y → (∀ t ∈ y, Mild t) → y.length ≤ 1000 → Calls Try.prog 21 #[.slice A (sbTo G z k).length c, u'] W (RedPost (sbTo G z k ++ y) W)) := Lib.hid fun W u' y hb hu hy hyl => mul41_any W _ u' _ y (OwnI.ints (owns_below HO.out hb) (Mild.fits (sbTo_mild HM.out z k))) hu (sbTo_mild HM.out z k) hy (by omega)
      have HSZ := Lib.hid fun W => size58_any W (z.getD k 0) hx1
      have hmI : ((z.getD k 0).natAbs : Int) - 1 = (m : Int) := by omega
      have hm0 : (0 : Int) ≤ (m : Int) := Int.natCast_nonneg _
      have hmG : (m : Int) < (G.length : Int) := by omega
      have hmw : IntKind.u64.wrap (m : Int) = (m : Int) := by simp [IntKind.wrap, IntKind.bits, IntKind.signed]; omega
      unfold RedPost at HMUL
      clear hcc0 hcc t3 hgg hI hsl hsl2 hx1 hx3 hmx
      generalize sbTo G z k = S at *
      generalize G.getD m [] = y at *
      generalize ((z.getD k 0).natAbs : Int) = n at *
      generalize z.getD k 0 = x at *
      by_cases hxp : 0 < x
      · rw [if_pos hxp] at HST
        have hxn : ¬ x < 0 := by omega
        clear hxp hx2
        go_wp2_with (first
          | (go_at_call 58; (refine (HSZ.out _).mono ?_); rintro e w' ⟨rfl, rfl⟩)
          | (go_at_call 21; (refine (HMUL.out _ _ y (Below.refl _ _) HI.out HMY.out HLY.out).mono ?_); rintro e w2 ⟨A5, c5, rfl, ho, hb⟩))
        go_roundw
        case rel => exact ⟨k + 1, A5, c5, by omega, by go_num, by rw [HST.out], Lib.hid (by rw [HST.out]; exact owns_base ho HB.out.size), Lib.hid (HB.out.trans (hb.mono HB.out.size))⟩
        case measure => simp [intOf]; omega
      · rw [if_neg hxp] at HST
        have hxn : x < 0 := by omega
        have HT := Lib.hid (turned116_any wr (.slice Au y.length cu) y HI.out HMY.out (by have := HLY.out; omega))
        clear hxp hx2
        go_wp2_with (first
          | (go_at_call 58; (refine (HSZ.out _).mono ?_); rintro e w' ⟨rfl, rfl⟩)
          | (go_at_call 40; (refine HT.out.mono ?_); rintro e w4 ⟨⟨u4, rfl, hi4⟩, hb4⟩
             have hiy : (inv y).length ≤ 1000 := by rw [length_inv]; exact HLY.out
             have HM4 := Lib.hid (HMUL.out w4 u4 (inv y) hb4 hi4 (mild_inv' HMY.out) hiy)
             have HB4 := Lib.hid hb4
             obtain ⟨A9, c9, rfl, -⟩ := hi4.open_
             clear hi4 hb4 hiy)
          | (go_at_call 21; (refine HM4.out.mono ?_); rintro e w2 ⟨A5, c5, rfl, ho, hb⟩))
        go_roundw
        case rel => exact ⟨k + 1, A5, c5, by omega, by go_num, by rw [HST.out], Lib.hid (by rw [HST.out]; exact owns_base ho (Nat.le_trans HB.out.size HB4.out.size)), Lib.hid ((HB.out.trans (HB4.out.mono HB.out.size)).trans (hb.mono (Nat.le_trans HB.out.size HB4.out.size)))⟩
        case measure => simp [intOf]; omega
    · obtain rfl : k = z.length := by omega
      rw [← HS.out] at HO hsl ⊢
      have hn0 : (0 : Int) ≤ ((sbW G z).length : Int) := Int.natCast_nonneg _
      have hnb : ((sbW G z).length : Int) ≤ 4000000 := by omega
      clear hsl hsl2
      generalize sbW G z = S at *
      by_cases hS : S.length ≤ 4000
      · have hS' : ¬ (4000 : Int) < (S.length : Int) := by omega
        have HR : Hid (S.length ≤ 4000) := Lib.hid hS
        clear hS
        go_wp2_with fail
        go_ret2
        exact ⟨by rw [if_pos HR.out]; exact ⟨A, c, rfl, HO.out⟩, HB.out⟩
      · have hS' : (4000 : Int) < (S.length : Int) := by omega
        have HR : Hid (¬ S.length ≤ 4000) := Lib.hid hS
        clear hS
        go_wp2_with fail
        go_ret2
        exact ⟨by rw [if_neg HR.out]; rfl, HB.out⟩
end Go.Proofs
namespace Go.Proofs
open Go.RowKit Go.Shelf Go.Lib Go.Proofs.Ct Go.Proofs.Tz
theorem run_append_zerosW (w : World) (n : Nat) (h0 : 0 < n) (hn : n ≤ 1000000) :
    (Builtin.append_ #[25, 3] 25 #[.slice none 0 0, .int .i64 (n : Int)]).run Try.prog w =
      .ok (.slice (some ⟨w.heap.size, 0, none⟩) n (grownCap w n 0 24)) (w.drew.alloc (.cells (Builtin.zeroCells #[.slice none 0 0] n ++ Builtin.zeroCells #[.slice none 0 0] (grownCap w n 0 24 - n)) 24)) := by
  obtain ⟨i, hi, hz, hs, hby⟩ := info25p
  have hwr : IntKind.i64.wrap (n : Int) = n := IntWalk.i64_in _ (by omega)
  have hn0 : n ≠ 0 := by omega
  have h48 : ¬ (281474976710656 < Builtin.nextslicecap n 0 * i.bytes) := by rw [nextslicecap_zero h0, hby]; omega
  have h48' : ¬ ((281474976710656 : Int) < (n : Int) * (i.bytes : Int)) := by rw [hby]; omega
  have h63' : ¬ (9223372036854775807 < (n : Int)) := by omega
  have hneg : ¬ ((n : Int) < 0) := by omega
  simp [Builtin.append_, run_underlying Try.underlying25, run_underlying Try.underlying3, sizeOf, typeInfo, zeroValue, hi, hz, hs, asInt, asIntOf, hwr, hneg, h48', hn0, h48, h63', Question.forced, run_firstCells_none, newRow, grownCap, Value.cells]
theorem r_app2W {o : Oper} {a : Act} {w w' : World} (s x : Operand) (t u : TypeId) {sv xv v' : Value} (ho : o.op = .call { callee := .builtin .append, args := #[s, x], argTypes := #[t, u] }) (hs : a.eval s = sv) (hx : a.eval x = xv)
    (hr : (Builtin.append_ #[t, u] o.type #[sv, xv]).run Try.prog w = .ok v' w') : (execOp a.eval o).run Try.prog w = .ok (.value v') w' := by
  unfold execOp
  simp only [ho, resolve, invoke, builtin, Sem.run_bind, Sem.run_pure, Result.andThen_ok, List.map_toArray, List.map_cons, List.map_nil, hs, hx, hr]
/-- values of the call's own -/
def ValsPost (base : Nat) (x : List Value) (w : World) (e : Ending) (w' : World) : Prop := ∃ A c, e = .returned (.slice A x.length c) ∧ w'.ownsRow base 24 1 (.slice A x.length c) x.length x ∧ Below w.heap.size w w'
set_option maxRecDepth 100000 in
theorem grow43_any (w : World) (n : Nat) (hn : n ≤ 1000000) : Calls Try.prog 43 #[.slice none 0 0, .int .i64 (n : Int)] w (ValsPost w.heap.size [] w) := by
  have hn0 : (0 : Int) ≤ (n : Int) := Int.natCast_nonneg _
  have hn1 : (n : Int) ≤ 1000000 := by omega
  by_cases h0 : n = 0
  · subst h0
    go_enter Try.func43, Try.ntmps43
    go_wp2_with fail
    go_ret
    exact ⟨none, 0, rfl, World.ownsRow_nil _ _ _ _, Below.refl _ _⟩
  · have hpos : (0 : Int) < (n : Int) := by omega
    have hr := run_append_zerosW w n (by omega) hn
    have hcm := grownCap_le_maxLen w n 0 24 (by unfold maxLen; omega)
    have hcg := grownCap_ge w n 0 24
    have hsz : (Builtin.zeroCells #[Value.slice none 0 0] n ++ Builtin.zeroCells #[Value.slice none 0 0] (grownCap w n 0 24 - n)).size = grownCap w n 0 24 := by
      simp [size_zeroCells]; omega
    have hnew := heap_alloc_new w.drew (.cells (Builtin.zeroCells #[Value.slice none 0 0] n ++ Builtin.zeroCells #[Value.slice none 0 0] (grownCap w n 0 24 - n)) 24)
    have hbel : Below w.heap.size w (w.drew.alloc (.cells (Builtin.zeroCells #[Value.slice none 0 0] n ++ Builtin.zeroCells #[Value.slice none 0 0] (grownCap w n 0 24 - n)) 24)) := (below_drewN (Below.refl w.heap.size w) 1).alloc (Nat.le_refl _) _
    generalize Builtin.zeroCells #[Value.slice none 0 0] n ++ Builtin.zeroCells #[Value.slice none 0 0] (grownCap w n 0 24 - n) = C at *
    generalize grownCap w n 0 24 = cap at *
    have hown : (w.drew.alloc (.cells C 24)).ownsRow w.heap.size 24 1 (.slice (some ⟨w.heap.size, 0, none⟩) 0 cap) 0 [] := ⟨rfl, .inr ⟨w.heap.size, cap, C, rfl, Nat.le_refl _, hnew, Nat.zero_le _, hcm, by omega, by simp⟩⟩
    generalize w.drew.alloc (.cells C 24) = W at *
    have hcm' : cap ≤ 9223372036854775807 := by unfold maxLen at hcm; exact hcm
    have hcg' : (n : Int) ≤ (cap : Int) := by omega
    have HR := Lib.hid hr
    have HO := Lib.hid hown
    have HB := Lib.hid hbel
    clear hr hown hbel hnew hsz hcm
    go_enter Try.func43, Try.ntmps43
    go_wp2_with ((with_reducible refine wpList_sel 22 ?_); refine wpList_val rfl (r_app2W (.tmp 20) (.tmp 21) 25 3 rfl rfl rfl HR.out) ?_)
    go_ret
    exact ⟨_, cap, rfl, HO.out, HB.out⟩
/-- a slice whose elements (of one cell each) are these values -/
def SlV (w : World) (v : Value) (xs : List Value) : Prop := Sl w v xs ∧ ∀ y ∈ xs, y.oneCell' = true
theorem SlV.below {w w' : World} {v : Value} {xs : List Value} (h : SlV w v xs) (hb : Below w.heap.size w w') : SlV w' v xs := ⟨h.1.below hb, h.2⟩
/-- the first k lists one after the other -/
def catV (xs : List (List Value)) (k : Nat) : List Value := (xs.take k).flatten
theorem catV_succ (xs : List (List Value)) {k : Nat} (hk : k < xs.length) : catV xs (k + 1) = catV xs k ++ xs.getD k [] := by
  unfold catV
  rw [List.take_succ_eq_append_getElem hk, List.flatten_append]
  simp [List.getD_eq_getElem?_getD, hk]
theorem catV_mono (xs : List (List Value)) {k m : Nat} (h : k ≤ m) (hm : m ≤ xs.length) : (catV xs k).length ≤ (catV xs m).length := by
  obtain ⟨d, rfl⟩ := Nat.exists_eq_add_of_le h
  clear h
  induction d with
  | zero => exact Nat.le_refl _
  | succ d ih =>
    have := ih (by omega)
    rw [← Nat.add_assoc, catV_succ xs (by omega), List.length_append]
    omega
set_option maxRecDepth 100000 in
set_option maxHeartbeats 1000000 in
theorem concat25w_any (w : World) (v : Value) (xs : List (List Value)) (h : LAt SlV [] w v xs) (hl : (catV xs xs.length).length ≤ 1000000) : Calls Try.prog 25 #[v] w (ValsPost w.heap.size (catV xs xs.length) w) := by
  obtain ⟨A0, c0, rfl, hc1, hc2, hc⟩ := h.open_
  have HC := Lib.hid hc
  clear hc h
  have hx0 : (0 : Int) ≤ (xs.length : Int) := Int.natCast_nonneg _
  go_enter Try.func25, Try.ntmps25
  go_wp2_with fail
  go_loop [3, 11] (fun so i => ∃ k n : Nat, i = .int .i64 k ∧ k ≤ xs.length ∧ so = .int .i64 n ∧ Hid (n = (catV xs k).length)) (fun _ i => xs.length - (intOf i).toNat)
  case atStart => exact ⟨0, 0, rfl, by omega, rfl, Lib.hid rfl⟩
  case round =>
    obtain ⟨k, n, rfl, hk, rfl, HN⟩ := hrel
    have hk0 : (0 : Int) ≤ (k : Int) := Int.natCast_nonneg _
    have hn0 : (0 : Int) ≤ (n : Int) := Int.natCast_nonneg _
    by_cases hlt : k < xs.length
    · have hlt' : (k : Int) < (xs.length : Int) := by omega
      obtain ⟨b, o, rfl, hcc⟩ := HC.out (by omega)
      obtain ⟨u, hu, hI⟩ := hcc k hlt
      obtain ⟨A5, q, c5, rfl, h1, h2, h3, -⟩ := hI.1
      have hst := catV_succ xs hlt
      have hmo := catV_mono xs (k := k + 1) (m := xs.length) (by omega) (by omega)
      have hb : (n : Int) + (q : Int) ≤ 1000000 := by have := HN.out; rw [hst, List.length_append] at hmo; omega
      have HN2 : Hid (n + q = (catV xs (k + 1)).length) := Lib.hid (by rw [hst, List.length_append, HN.out, h1])
      clear hcc hI hst hmo h1
      unfold maxLen at h3
      have hq0 : (0 : Int) ≤ (q : Int) := Int.natCast_nonneg _
      go_wp2_with fail
      go_round
      case rel => exact ⟨k + 1, n + q, by go_num, by omega, by go_num, HN2⟩
      case measure => simp [intOf]; omega
    · obtain rfl : k = xs.length := by omega
      have HG := Lib.hid (grow43_any w n (by have := HN.out; omega))
      go_wp2_with (go_at_call 43; (refine HG.out.mono ?_); rintro e w1 ⟨A1, c1, rfl, ho, hb⟩; have HO := Lib.hid ho; have HB := Lib.hid hb; clear ho hb)
      go_loopw [6, 27] (fun so i wr => ∃ k n : Nat, i = .int .i64 k ∧ k ≤ xs.length ∧ Hid (n = (catV xs k).length) ∧ ∃ A c, so = .slice A n c ∧ Hid (wr.ownsRow w.heap.size 24 1 so n (catV xs k) ∧ Below w.heap.size w wr)) (fun _ i _ => xs.length - (intOf i).toNat)
      case atStart => exact ⟨0, 0, rfl, by omega, Lib.hid rfl, _, _, rfl, Lib.hid ⟨HO.out, HB.out⟩⟩
      case round =>
        clear HO HB HG HN hn0 hk0
        obtain ⟨k, n, rfl, hk, HN, A, c, rfl, HS⟩ := hrel
        have hk0 : (0 : Int) ≤ (k : Int) := Int.natCast_nonneg _
        by_cases hlt : k < xs.length
        · have hlt' : (k : Int) < (xs.length : Int) := by omega
          obtain ⟨b, o, rfl, hcc⟩ := HC.out (by omega)
          obtain ⟨u, hu, hI⟩ := hcc k hlt
          have hu' := (HS.out.2.cell (p := ⟨b, o + k, none⟩) (World.block_lt_of_cell? w _ hu)).trans hu
          have hmo := catV_mono xs (k := k + 1) (m := xs.length) (by omega) (by omega)
          have hst := catV_succ xs hlt
          have hnl := HN.out
          rw [hst, List.length_append] at hmo
          obtain ⟨A', c', w', hr, ho, hg, -⟩ := run_app (ty := 25) Try.underlying25 info25p rfl (by omega) wr w.heap.size (.slice A n c) n (catV xs k) HS.out.1 u (xs.getD k []) (hI.1.below HS.out.2) hI.2 (by omega) (by omega) HS.out.2.size
          rw [← hst] at ho
          have HR := Lib.hid hr
          have HN2 : Hid (n + (xs.getD k []).length = (catV xs (k + 1)).length) := Lib.hid (by rw [hst, List.length_append, HN.out])
          have HS2 : Hid (w'.ownsRow w.heap.size 24 1 (.slice A' (n + (xs.getD k []).length) c') (n + (xs.getD k []).length) (catV xs (k + 1)) ∧ Below w.heap.size w w') := Lib.hid ⟨ho, HS.out.2.grown hg HS.out.2.size (fun r hr => (owns_block HS.out.1 r hr).1)⟩
          clear hcc hu hI hmo hst hr ho hg hnl
          generalize (xs.getD k []).length = q at *
          go_wp2_with ((with_reducible refine wpList_sel 33 ?_); refine wpList_val rfl (r_app (.tmp 31) (.tmp 32) 25 rfl rfl rfl HR.out) ?_)
          go_roundw
          case rel => exact ⟨k + 1, _, by go_num, by omega, HN2, _, _, rfl, HS2⟩
          case measure => simp [intOf]; omega
        · obtain rfl : k = xs.length := by omega
          go_wp2_with fail
          go_ret
          exact ⟨A, c, by rw [← HN.out]; rfl, by rw [← HN.out]; exact HS.out.1, HS.out.2⟩
end Go.Proofs
namespace Go.Proofs
open Go.RowKit Go.Shelf Go.Lib Go.Sort Go.Proofs.Ct Go.Proofs.Tz Go.Maps
/-- the index of the first hit, or -1 -/
def IdxAt (p : Int → Bool) (xs : List Int) (e : Ending) : Prop := (e = .returned (.int .i64 (-1)) ∧ ∀ j, j < xs.length → p (xs.getD j 0) = false) ∨ ∃ k : Nat, e = .returned (.int .i64 (k : Int)) ∧ k < xs.length ∧ p (xs.getD k 0) = true ∧ ∀ j, j < k → p (xs.getD j 0) = false
section
variable (g : Nat) (lb : Array Value) (ok : Int → Prop) (p : Int → Bool) (w : World) (eg : ∀ args w, (callFunc g args).run Try.prog w = .ok (.enter g args) w) (hp : PredW g lb ok p w) (v : Value) (xs : List Int) (h : IntsAt w v xs) (hok : ∀ x ∈ xs, ok x)
include eg hp h hok
set_option maxHeartbeats 400000 in
theorem idx37_at : Calls Try.prog 37 #[v, .func (.func g) #[] lb] w fun e w' => IdxAt p xs e ∧ ∃ q, w' = w.drewN q := by
  obtain ⟨A, c, rfl, hc1, hc2, hc⟩ := h.open_
  have HC := Lib.hid hc
  have HP := Lib.hid hp
  have HK := Lib.hid hok
  clear hc hp h hok
  go_enter Try.func37, Try.ntmps37
  go_wp2_with fail
  go_loopw [5, 8] (fun _ i wr => ∃ k : Nat, k ≤ xs.length ∧ i = .int .i64 k ∧ (∀ j, j < k → p (xs.getD j 0) = false) ∧ ∃ q, wr = w.drewN q) (fun _ i _ => xs.length - (intOf i).toNat)
  case atStart => exact ⟨0, Nat.zero_le _, rfl, fun j hj => absurd hj (by omega), 0, rfl⟩
  case round =>
    obtain ⟨k, hk, rfl, hz, q, rfl⟩ := hrel
    have HZ := Lib.hid hz
    clear hz
    by_cases hlt : k < xs.length
    · obtain ⟨b, o, rfl, hcc⟩ := HC.out (by omega)
      have hck := hcc k hlt
      have hx : ok (xs.getD k 0) := HK.out _ (by rw [List.getD_eq_getElem?_getD, List.getElem?_eq_getElem hlt]; exact List.getElem_mem hlt)
      clear hcc
      generalize hxe : xs.getD k 0 = x at *
      have HXE := Lib.hid hxe
      clear hxe
      have HX := Lib.hid hx
      clear hx
      have hcall := HP.out x q HX.out
      cases hq : p x with
      | true =>
        rw [hq] at hcall
        have HQ := Lib.hid hq
        clear hq
        have HCALL := Lib.hid hcall
        clear hcall
        go_wp2_with (go_at_fn g; (refine HCALL.out.mono ?_); rintro e w' ⟨rfl, q', rfl⟩)
        go_ret
        exact ⟨.inr ⟨k, rfl, hlt, by rw [HXE.out]; exact HQ.out, HZ.out⟩, _, rfl⟩
      | false =>
        rw [hq] at hcall
        have HQ := Lib.hid hq
        clear hq
        have HCALL := Lib.hid hcall
        clear hcall
        go_wp2_with (go_at_fn g; (refine HCALL.out.mono ?_); rintro e w' ⟨rfl, q', rfl⟩)
        go_roundw
        case rel => exact ⟨k + 1, by omega, by go_num, all_succ HZ.out (by rw [HXE.out]; exact HQ.out), _, rfl⟩
        case measure => simp [intOf]; omega
    · obtain rfl : k = xs.length := by omega
      go_wp2_with fail
      go_ret
      exact ⟨.inl ⟨rfl, HZ.out⟩, _, rfl⟩
end
theorem onceW_no {x : List Int} {g : Int} (h : ∀ j, j < x.length → isG g (x.getD j 0) = false) : onceW x g = none := by
  unfold onceW
  have : x.countP (isG g) = 0 := by
    rw [List.countP_eq_zero]
    intro a ha
    obtain ⟨i, hi, rfl⟩ := List.getElem_of_mem ha
    have := h i hi
    rw [List.getD_eq_getElem?_getD, List.getElem?_eq_getElem hi] at this
    have h2 : isG g x[i] = false := this
    simp [h2]
  rw [this]
  rfl
theorem onceW_at {x : List Int} {g : Int} {k : Nat} (hk : k < x.length) (hp : isG g (x.getD k 0) = true) (h : ∀ j, j < k → isG g (x.getD j 0) = false) : onceW x g = if (x.drop (k + 1)).any (isG g) = true then none else some k := by
  have hpk : isG g x[k] = true := by
    rw [List.getD_eq_getElem?_getD, List.getElem?_eq_getElem hk] at hp
    exact hp
  have hl : ∀ i (hi : i < x.length), i < k → isG g x[i] = false := fun i hi hik => by
    have := h i hik
    rw [List.getD_eq_getElem?_getD, List.getElem?_eq_getElem hi] at this
    exact this
  have h0 : (x.take k).countP (isG g) = 0 := by
    rw [List.countP_eq_zero]
    intro a ha
    obtain ⟨i, hi, rfl⟩ := List.getElem_of_mem ha
    rw [List.length_take] at hi
    rw [List.getElem_take, hl i (by omega) (by omega)]
    simp
  have hx : x = x.take k ++ (x[k] :: x.drop (k + 1)) := by rw [← List.drop_eq_getElem_cons hk, List.take_append_drop]
  have hc : x.countP (isG g) = (x.drop (k + 1)).countP (isG g) + 1 := by
    conv => lhs; rw [hx]
    rw [List.countP_append, h0, List.countP_cons, hpk]
    simp
  have hf : x.findIdx (isG g) = k := by
    rw [List.findIdx_eq hk]
    exact ⟨hpk, fun j hj => hl j (by omega) hj⟩
  unfold onceW
  rw [hc, hf]
  by_cases ha : (x.drop (k + 1)).any (isG g) = true
  · rw [if_pos ha, if_neg]
    obtain ⟨a, h1, h2⟩ := List.any_eq_true.1 ha
    have := List.countP_pos_iff.2 ⟨a, h1, h2⟩
    omega
  · rw [if_neg ha, if_pos]
    have : (x.drop (k + 1)).countP (isG g) = 0 := by
      rw [List.countP_eq_zero]
      intro a h1 h2
      exact ha (List.any_eq_true.2 ⟨a, h1, h2⟩)
    omega
theorem is36_ok (W : World) (b : Nat) (g : Int) (hg : -1000000 ≤ g ∧ g ≤ 1000000) (h : W.cell? ⟨b, 0, none⟩ = some (.int .i64 g)) (x : Int) : Calls Try.prog 36 #[.int .i64 x, .pointer (some ⟨b, 0, none⟩)] W fun e w' => e = .returned (.bool (isG g x)) ∧ ∃ q, w' = W.drewN q := by
  have HR : Hid (isG g x = (decide (x = g) || decide (x = -g))) := Lib.hid rfl
  by_cases h1 : x = g
  · have hd : (x == g) = true := by simpa using h1
    have HE : Hid (isG g x = true) := Lib.hid (by rw [HR.out]; simp [h1])
    clear h1
    go_enter Try.func36, Try.ntmps36
    go_wp2_with fail
    go_ret
    exact ⟨ret_bool HE.out.symm, 0, rfl⟩
  · have hd : (x == g) = false := by simpa using h1
    have HE : Hid (isG g x = (x == -g)) := Lib.hid (by rw [HR.out, decide_eq_false h1, Bool.false_or]; rfl)
    have hw : IntKind.i64.wrap (-g) = -g := by simp [IntKind.wrap, IntKind.bits, IntKind.signed]; omega
    clear h1
    go_enter Try.func36, Try.ntmps36
    go_wp2_with fail
    go_ret
    exact ⟨ret_bool HE.out.symm, 0, rfl⟩
def onceI (x : List Int) (g : Int) : Int := match onceW x g with | none => -1 | some k => (k : Int)
set_option maxRecDepth 100000 in
set_option maxHeartbeats 1000000 in
theorem once20_any (w : World) (u : Value) (x : List Int) (g : Int) (hg : -1000000 ≤ g ∧ g ≤ 1000000) (hu : IntsAt w u x) : Calls Try.prog 20 #[u, .int .i64 g] w fun e w' => e = .returned (.int .i64 (onceI x g)) ∧ Below w.heap.size w w' := by
  have eg : ∀ args w, (callFunc 36 args).run Try.prog w = .ok (.enter 36 args) w := enters_of Try.func36 (by kernel_rfl) rfl
  have HU := Lib.hid hu
  obtain ⟨A, c, rfl, h1, h2, h3⟩ := hu.open_
  have H3 := Lib.hid h3
  clear hu h3
  obtain ⟨w1, hw1⟩ : ∃ w1, w1 = w.alloc (.cells #[.int .i64 g] 3) := ⟨_, rfl⟩
  have HB : Hid (Below w.heap.size w w1) := Lib.hid (by rw [hw1]; exact (Below.refl _ _).alloc (Nat.le_refl _) _)
  have hc : w1.cell? ⟨w.heap.size, 0, none⟩ = some (.int .i64 g) := by
    rw [hw1, cell_of_row _ _ _ _ _ _ (heap_alloc_new w (.cells #[.int .i64 g] 3))]
    rfl
  have HP : Hid (∀ r, PredW 36 #[.pointer (some ⟨w.heap.size, 0, none⟩)] (fun _ => True) (isG g) (w1.drewN r)) := Lib.hid fun r y q _ => (is36_ok ((w1.drewN r).drewN q) w.heap.size g hg hc y).mono fun e w' ⟨a, q', b⟩ => ⟨a, q + q', by rw [b, World.drewN_drewN]⟩
  have HI := Lib.hid (idx37_at 36 #[.pointer (some ⟨w.heap.size, 0, none⟩)] (fun _ => True) (isG g) w1 eg (fun y q _ => (is36_ok (w1.drewN q) w.heap.size g hg hc y).mono fun e w' ⟨a, q', b⟩ => ⟨a, q + q', by rw [b, World.drewN_drewN]⟩) (.slice A x.length c) x (HU.out.below HB.out) (fun _ _ => trivial))
  have hx0 : (0 : Int) ≤ (x.length : Int) := Int.natCast_nonneg _
  have hx1 : (x.length : Int) ≤ 9223372036854775807 := by omega
  go_enter Try.func20, Try.ntmps20
  go_wp2_with fail
  rw [← hw1]
  have HW := Lib.hid hw1
  clear hw1
  refine HI.out.mono ?_
  rintro e w2 ⟨hidx, q, rfl⟩
  rcases hidx with ⟨rfl, hall⟩ | ⟨k, rfl, hk, hhit, hbef⟩
  · have HE : Hid (onceI x g = -1) := Lib.hid (by unfold onceI; rw [onceW_no hall])
    clear hall
    go_wp2_with fail
    go_ret
    exact ⟨ret_int HE.out.symm, below_drewN HB.out _⟩
  · have HO := Lib.hid (onceW_at hk hhit hbef)
    have hk0 : (0 : Int) ≤ (k : Int) := Int.natCast_nonneg _
    have hkn : ¬ (k : Int) < 0 := by omega
    have hkd : decide ((k : Int) < 0) = false := decide_eq_false hkn
    have hkl : (k : Int) < (x.length : Int) := by omega
    have hk1 : Value.int .i64 ((k : Int) + 1) = Value.int .i64 ((k + 1 : Nat) : Int) := congrArg _ (by omega)
    obtain ⟨b, o, rfl, -⟩ := H3.out (by omega)
    obtain ⟨A', hs, hi⟩ := ints_cut (HU.out.below HB.out) (k := k + 1) (h := x.length) (by omega) (Nat.le_refl _)
    rw [List.take_length] at hi
    have hcc : (c - (k + 1) = 0) ↔ c = k + 1 := by omega
    unfold sliced at hs
    injection hs with hA
    simp only [Nat.mul_one, Option.map_some, Addr.add_mid] at hA
    have HH := Lib.hid (has74_any 36 #[.pointer (some ⟨w.heap.size, 0, none⟩)] (fun _ => True) (isG g) (w1.drewN q) eg (HP.out q) (.slice A' (x.length - (k + 1)) (c - (k + 1))) (x.drop (k + 1)) (hi.drewN q) (fun _ _ => trivial))
    clear hi hhit hbef
    cases hany : (x.drop (k + 1)).any (isG g) with
    | true =>
      rw [hany] at HH HO
      have HE : Hid (onceI x g = -1) := Lib.hid (by unfold onceI; rw [HO.out, if_pos rfl])
      clear hany
      go_wp2_with (first
        | (go_at_call 34; (try rw [hA]); (refine HH.out.mono ?_); rintro e w' ⟨rfl, q', rfl⟩))
      go_ret
      exact ⟨ret_int HE.out.symm, by first | exact below_drewN HB.out _ | exact below_drewN (below_drewN HB.out _) _⟩
    | false =>
      rw [hany] at HH HO
      have HE : Hid (onceI x g = k) := Lib.hid (by unfold onceI; rw [HO.out, if_neg (by simp)])
      clear hany
      go_wp2_with (first
        | (go_at_call 34; (try rw [hA]); (refine HH.out.mono ?_); rintro e w' ⟨rfl, q', rfl⟩))
      go_ret
      exact ⟨ret_int HE.out.symm, by first | exact below_drewN HB.out _ | exact below_drewN (below_drewN HB.out _) _⟩
end Go.Proofs
namespace Go.Proofs
open Go.RowKit Go.Shelf Go.Lib Go.Sort Go.Proofs.Ct Go.Proofs.Tz Go.Maps
theorem own_cur {base : Nat} {w : World} {g n c : Nat} {xs : List Int} (h : OwnI base w (.slice (some ⟨g, 0, none⟩) n c) xs) (_h0 : 0 < xs.length) : ∃ cur : Array Value, w.heap[g]? = some (.cells cur 3 (0, 0)) ∧ base ≤ g ∧ xs.length ≤ c ∧ c ≤ maxLen ∧ cur.size = c ∧ cur.toList.take xs.length = ints xs ∧ n = xs.length := by
  obtain ⟨hlen, ho⟩ := h
  rcases ho with ⟨e, -⟩ | ⟨g', cap, cur, e, hb, hC, h1, hm, hs, ht⟩
  · cases e
  · injection e with e1 e2 e3
    injection e1 with e1
    injection e1 with e1
    subst e1 e2 e3
    rw [Nat.mul_one] at hs ht
    exact ⟨cur, hC, hb, h1, hm, hs, ht, rfl⟩
theorem own_cell {base : Nat} {w : World} {g n c k : Nat} {xs : List Int} (h : OwnI base w (.slice (some ⟨g, 0, none⟩) n c) xs) (hk : k < xs.length) : w.cell? ⟨g, k, none⟩ = some (.int .i64 (xs.getD k 0)) ∧ w.frozen? ⟨g, k, none⟩ = false := by
  obtain ⟨cur, hC, -, h1, -, hs, ht, -⟩ := own_cur h (by omega)
  refine ⟨?_, by simp [World.frozen?, hC]⟩
  rw [cell_of_row _ _ _ _ _ _ hC]
  have h5 : (cur.toList.take xs.length)[k]? = (ints xs)[k]? := by rw [ht]
  rw [List.getElem?_take, if_pos hk, Array.getElem?_toList] at h5
  rw [h5]
  simp [ints, List.getD_eq_getElem?_getD, hk]
theorem own_set {base : Nat} {w : World} {g n c k : Nat} {xs : List Int} (h : OwnI base w (.slice (some ⟨g, 0, none⟩) n c) xs) (hk : k < xs.length) (z : Int) : OwnI base (w.setCell ⟨g, k, none⟩ (.int .i64 z)) (.slice (some ⟨g, 0, none⟩) n c) (xs.set k z) ∧ base ≤ g := by
  obtain ⟨cur, hC, hb, h1, hm, hs, ht, rfl⟩ := own_cur h (by omega)
  have hnew : (w.setCell ⟨g, k, none⟩ (.int .i64 z)).heap[g]? = some (.cells (cur.setIfInBounds k (.int .i64 z)) 3 (0, 0)) := by
    rw [setCell_eq]
    simp [mapBlock, Array.getElem?_modify, hC, onCells]
  refine ⟨⟨by rw [length_ints, Nat.mul_one], .inr ⟨g, c, _, by rw [List.length_set], hb, hnew, by rw [List.length_set]; exact h1, hm, by simp [hs], ?_⟩⟩, hb⟩
  rw [List.length_set, Nat.mul_one, Array.toList_setIfInBounds, List.take_set, ht]
  simp [ints, List.map_set]
theorem own_some {base : Nat} {w : World} {A : Option Addr} {n c : Nat} {xs : List Int} (h : OwnI base w (.slice A n c) xs) (h0 : 0 < xs.length) : ∃ g, A = some ⟨g, 0, none⟩ := by
  obtain ⟨-, ho⟩ := h
  rcases ho with ⟨-, e⟩ | ⟨g', cap, cur, e, -⟩
  · omega
  · injection e with e1
    exact ⟨g', e1⟩
/-- the first k letters are lowered -/
def lowTo (g : Int) (x : List Int) (k : Nat) : List Int := (x.take k).map (lowI g) ++ x.drop k
theorem lowTo_len (g : Int) (x : List Int) {k : Nat} (hk : k ≤ x.length) : (lowTo g x k).length = x.length := by
  unfold lowTo
  rw [List.length_append, List.length_map, List.length_take, List.length_drop]
  omega
theorem lowTo_at (g : Int) (x : List Int) {k : Nat} (hk : k < x.length) : (lowTo g x k).getD k 0 = x.getD k 0 := by
  unfold lowTo
  rw [List.getD_eq_getElem?_getD, List.getElem?_append_right (by rw [List.length_map, List.length_take]; omega), List.length_map, List.length_take, Nat.min_eq_left (by omega), Nat.sub_self, List.getElem?_drop, Nat.add_zero, ← List.getD_eq_getElem?_getD]
theorem lowTo_succ (g : Int) (x : List Int) {k : Nat} (hk : k < x.length) : (lowTo g x k).set k (lowI g (x.getD k 0)) = lowTo g x (k + 1) := by
  unfold lowTo
  have e : x.getD k 0 = x[k] := by simp [List.getD_eq_getElem?_getD, hk]
  rw [e, List.set_append_right _ _ (by rw [List.length_map, List.length_take]; omega), List.length_map, List.length_take, Nat.min_eq_left (by omega), Nat.sub_self, List.drop_eq_getElem_cons hk, List.set_cons_zero, List.take_succ_eq_append_getElem hk, List.map_append, List.append_assoc]
  rfl
set_option maxRecDepth 100000 in
set_option maxHeartbeats 1000000 in
theorem without23_any (w : World) (u : Value) (x : List Int) (g : Int) (hg : 0 ≤ g ∧ g ≤ 1000000) (hu : IntsAt w u x) (hm : ∀ z ∈ x, Mild z) (hl : x.length ≤ 1000000) : Calls Try.prog 23 #[u, .int .i64 g] w (OwnPost (lowW g x) w) := by
  have HCL := Lib.hid (clone71_any w u x hu (by omega))
  have HM := Lib.hid fun k => Mild.at_ hm k
  obtain ⟨A0, c0, rfl, -⟩ := hu.open_
  have hx0 : (0 : Int) ≤ (x.length : Int) := Int.natCast_nonneg _
  have hx1 : (x.length : Int) ≤ 1000000 := by omega
  clear hu hm
  go_enter Try.func23, Try.ntmps23
  go_wp2_with (go_at_call 41; (refine HCL.out.mono ?_); rintro e w1 ⟨A, c, rfl, ho, hb⟩; have HO := Lib.hid ho; have HB := Lib.hid hb; clear ho hb)
  go_loopw [6, 7, 12, 17, 27] (fun _ _ i _ _ wr => ∃ k : Nat, k ≤ x.length ∧ i = .int .i64 k ∧ Hid (OwnI w.heap.size wr (.slice A x.length c) (lowTo g x k)) ∧ Hid (Below w.heap.size w wr)) (fun _ _ i _ _ _ => x.length - (intOf i).toNat)
  case atStart => exact ⟨0, Nat.zero_le _, rfl, Lib.hid (by unfold lowTo; exact HO.out), Lib.hid HB.out⟩
  case round =>
    clear HO HB
    obtain ⟨k, hk, rfl, HO, HB⟩ := hrel
    have hk0 : (0 : Int) ≤ (k : Int) := Int.natCast_nonneg _
    by_cases hlt : k < x.length
    · have hlt' : (k : Int) < (x.length : Int) := by omega
      have hll := lowTo_len g x (k := k) (by omega)
      obtain ⟨b, rfl⟩ := own_some HO.out (by omega)
      obtain ⟨hcell, hfz⟩ := own_cell HO.out (k := k) (by omega)
      rw [lowTo_at g x hlt] at hcell
      have hz := HM.out k
      have HSET : Hid (OwnI w.heap.size (wr.setCell ⟨b, k, none⟩ (.int .i64 (lowI g (x.getD k 0)))) (.slice (some ⟨b, 0, none⟩) x.length c) (lowTo g x (k + 1)) ∧ w.heap.size ≤ b) := Lib.hid (by
        have := own_set HO.out (k := k) (by omega) (lowI g (x.getD k 0))
        rwa [lowTo_succ g x hlt] at this)
      have HKP : Hid (lowI g (x.getD k 0) = x.getD k 0 → lowTo g x (k + 1) = lowTo g x k) := Lib.hid fun e => by
        rw [← lowTo_succ g x hlt, e]
        have hk' : k < (lowTo g x k).length := by omega
        have e2 : x.getD k 0 = (lowTo g x k)[k] := by rw [← lowTo_at g x hlt, List.getD_eq_getElem?_getD, List.getElem?_eq_getElem hk']; rfl
        rw [e2, List.set_getElem_self]
      have HLI : Hid (lowI g (x.getD k 0) = if x.getD k 0 > g then x.getD k 0 - 1 else if x.getD k 0 < -g then x.getD k 0 + 1 else x.getD k 0) := Lib.hid rfl
      unfold Mild at hz
      have hgw : IntKind.i64.wrap (-g) = -g := by simp [IntKind.wrap, IntKind.bits, IntKind.signed]; omega
      clear hll
      generalize x.getD k 0 = z at *
      by_cases h1 : g < z
      · have HE : Hid (lowI g z = z - 1) := Lib.hid (by rw [HLI.out, if_pos h1])
        rw [HE.out] at HSET
        go_wp2_with fail
        go_roundw
        case rel => exact ⟨k + 1, by omega, by go_num, Lib.hid HSET.out.1, Lib.hid (HB.out.setCell (p := ⟨b, k, none⟩) HSET.out.2 _)⟩
        case measure => simp [intOf]; omega
      · have h1' : z ≤ g := by omega
        by_cases h2 : z < -g
        · have HE : Hid (lowI g z = z + 1) := Lib.hid (by rw [HLI.out, if_neg (by omega), if_pos h2])
          rw [HE.out] at HSET
          go_wp2_with fail
          go_roundw
          case rel => exact ⟨k + 1, by omega, by go_num, Lib.hid HSET.out.1, Lib.hid (HB.out.setCell (p := ⟨b, k, none⟩) HSET.out.2 _)⟩
          case measure => simp [intOf]; omega
        · have HE : Hid (lowI g z = z) := Lib.hid (by rw [HLI.out, if_neg (by omega), if_neg h2])
          have h2' : ¬ z < -g := h2
          go_wp2_with fail
          go_roundw
          case rel => exact ⟨k + 1, by omega, by go_num, Lib.hid (by rw [HKP.out HE.out]; exact HO.out), Lib.hid HB.out⟩
          case measure => simp [intOf]; omega
    · obtain rfl : k = x.length := by omega
      have HE : Hid (lowTo g x x.length = lowW g x) := Lib.hid (by unfold lowTo lowW; rw [List.take_length, List.drop_length, List.append_nil])
      have HN : Hid ((lowW g x).length = x.length) := Lib.hid (by unfold lowW; rw [List.length_map])
      go_wp2_with fail
      go_ret
      exact ⟨A, c, by rw [HN.out]; rfl, by rw [HN.out, ← HE.out]; exact HO.out, HB.out⟩
end Go.Proofs
namespace Go.Proofs
open Go.RowKit Go.Shelf Go.Lib Go.Sort Go.Proofs.Ct Go.Proofs.Tz Go.Maps
set_option maxRecDepth 100000 in
set_option maxHeartbeats 1000000 in
theorem heads71_any (w : World) (u v : Value) (s h : List Int) (k : Nat) (hu : IntsAt w u s) (hv : IntsAt w v h) (hk : k < s.length) (hl : s.length ≤ 1000000) (hl2 : h.length ≤ 1000000) : Calls Try.prog 71 #[u, .int .i64 (k : Int), v] w fun e w' => e = .returned (.bool (headsB s k h)) ∧ ∃ q, w' = w.drewN q := by
  obtain ⟨A, c, rfl, h1, h2, hcs⟩ := hu.open_
  obtain ⟨B, d, rfl, h3, h4, hch⟩ := hv.open_
  have HS := Lib.hid hcs
  have HH := Lib.hid hch
  have HB : Hid (headsB s k h = (List.range h.length).all fun i => decide (s.getD ((k + i) % s.length) 0 = h.getD i 0)) := Lib.hid rfl
  have hk0 : (0 : Int) ≤ (k : Int) := Int.natCast_nonneg _
  have hkl : (k : Int) < (s.length : Int) := by omega
  have hsl : (s.length : Int) ≤ 1000000 := by omega
  have hhl : (h.length : Int) ≤ 1000000 := by omega
  have hs0 : ((s.length : Int) == 0) = false := beq_eq_false_iff_ne.2 (by omega)
  have hs1 : ¬ (s.length : Int) = 0 := by omega
  clear hu hv hcs hch
  go_enter Try.func71, Try.ntmps71
  go_wp2_with fail
  go_loopw [7, 8, 11] (fun _ _ z wr => ∃ i : Nat, i ≤ h.length ∧ z = .int .i64 i ∧ (∀ j, j < i → s.getD ((k + j) % s.length) 0 = h.getD j 0) ∧ ∃ q, wr = w.drewN q) (fun _ _ z _ => h.length - (intOf z).toNat)
  case atStart => exact ⟨0, Nat.zero_le _, rfl, fun j hj => absurd hj (by omega), 0, rfl⟩
  case round =>
    obtain ⟨i, hi, rfl, hz, q, rfl⟩ := hrel
    have HZ := Lib.hid hz
    clear hz
    have hi0 : (0 : Int) ≤ (i : Int) := Int.natCast_nonneg _
    by_cases hlt : i < h.length
    · have hlt' : (i : Int) < (h.length : Int) := by omega
      obtain ⟨b, o, rfl, hcs⟩ := HS.out (by omega)
      obtain ⟨b2, o2, rfl, hch⟩ := HH.out (by omega)
      obtain ⟨r, hr⟩ : ∃ r, r = (k + i) % s.length := ⟨_, rfl⟩
      have hrl : r < s.length := by rw [hr]; exact Nat.mod_lt _ (by omega)
      have hcr := hcs r hrl
      have hci := hch i hlt
      have hrem : ((k : Int) + (i : Int)).tmod (s.length : Int) = (r : Int) := by
        rw [hr, ← Int.natCast_add, Int.ofNat_tmod]
      have hr0 : (0 : Int) ≤ (r : Int) := Int.natCast_nonneg _
      have hrl' : (r : Int) < (s.length : Int) := by omega
      have HR : Hid (∀ x y, s.getD r 0 = x → h.getD i 0 = y → (s.getD ((k + i) % s.length) 0 = x ∧ h.getD i 0 = y)) := Lib.hid fun x y e1 e2 => ⟨by rw [← hr]; exact e1, e2⟩
      clear hcs hch hr
      generalize hxe : s.getD r 0 = x at *
      generalize hye : h.getD i 0 = y at *
      obtain ⟨e1, e2⟩ := HR.out x y rfl rfl
      have HX := Lib.hid e1
      have HY := Lib.hid hye
      clear hxe hye e1 e2 HR
      by_cases hxy : x = y
      · have hd : (x != y) = false := by simpa using hxy
        have HXY := Lib.hid hxy
        clear hxy
        go_wp2_with fail
        go_roundw
        case rel => exact ⟨i + 1, by omega, by go_num, all_succ HZ.out (by rw [HX.out, HY.out]; exact HXY.out), (by first | exact ⟨_, rfl⟩ | exact ex_drewN)⟩
        case measure => simp [intOf]; omega
      · have hd : (x != y) = true := by simpa using hxy
        have HF : Hid (headsB s k h = false) := Lib.hid (by
          rw [HB.out, List.all_eq_false]
          exact ⟨i, List.mem_range.2 hlt, by rw [HX.out, HY.out]; simpa using hxy⟩)
        clear hxy
        go_wp2_with fail
        go_ret
        exact ⟨ret_bool HF.out.symm, (by first | exact ⟨_, rfl⟩ | exact ex_drewN)⟩
    · obtain rfl : i = h.length := by omega
      have HF : Hid (headsB s k h = true) := Lib.hid (by
        rw [HB.out, List.all_eq_true]
        exact fun j hj => decide_eq_true (HZ.out j (List.mem_range.1 hj)))
      go_wp2_with fail
      go_ret
      exact ⟨ret_bool HF.out.symm, (by first | exact ⟨_, rfl⟩ | exact ex_drewN)⟩
/-- the length of the first k words -/
def lenTo (l : List (List Int)) (k : Nat) : Nat := lenL (l.take k)
theorem lenTo_succ (l : List (List Int)) {k : Nat} (hk : k < l.length) : lenTo l (k + 1) = lenTo l k + (l.getD k []).length := by
  unfold lenTo lenL
  rw [List.take_succ_eq_append_getElem hk, List.map_append, List.sum_append]
  simp [List.getD_eq_getElem?_getD, hk]
theorem lenTo_le (l : List (List Int)) : ∀ k, lenTo l k ≤ lenL l := fun k => by
  unfold lenTo lenL
  conv => rhs; rw [← List.take_append_drop k l, List.map_append, List.sum_append]
  omega
set_option maxRecDepth 100000 in
set_option maxHeartbeats 1000000 in
theorem length5_any (w : World) (v : Value) (g : Int) (l : List (List Int)) (hv : Tab w v l) (hl : lenL l ≤ 1000000000000) : Calls Try.prog 5 #[.agg #[.int .i64 g, v]] w fun e w' => e = .returned (.int .i64 (lenL l : Int)) ∧ Below w.heap.size w w' := by
  obtain ⟨A, c, rfl, h1, h2, h3⟩ := hv.open_
  have HV := Lib.hid hv
  have hl0 : (0 : Int) ≤ (l.length : Int) := Int.natCast_nonneg _
  have HB : Hid (Below w.heap.size w (w.alloc (.cells #[.int .i64 g, .slice A l.length c] 27))) := Lib.hid ((Below.refl _ _).alloc (Nat.le_refl _) _)
  have hnew := heap_alloc_new w (.cells #[.int .i64 g, .slice A l.length c] 27)
  have hc := (cell_of2 hnew).2
  clear hnew h3 hv
  generalize hw1 : w.alloc (.cells #[.int .i64 g, .slice A l.length c] 27) = w1 at *
  have HT := Lib.hid (kept_tab.below HV.out HB.out)
  have hlw : (lenL l : Int) ≤ 1000000000000 := by omega
  go_enter Try.func5, Try.ntmps5
  go_wp2_with fail
  try rw [hw1]
  clear hw1
  go_loopw [3, 5, 9] (fun s _ z wr => ∃ k : Nat, k ≤ l.length ∧ z = .int .i64 k ∧ s = .int .i64 (lenTo l k : Int) ∧ ∃ q, wr = w1.drewN q) (fun _ _ z _ => l.length - (intOf z).toNat)
  case atStart => exact ⟨0, Nat.zero_le _, rfl, rfl, 0, rfl⟩
  case round =>
    obtain ⟨k, hk, rfl, rfl, q, rfl⟩ := hrel
    have hk0 : (0 : Int) ≤ (k : Int) := Int.natCast_nonneg _
    by_cases hlt : k < l.length
    · have hlt' : (k : Int) < (l.length : Int) := by omega
      obtain ⟨A', c', e', t1, t2, t3⟩ := HT.out.open_
      injection e' with e1 _ e3
      subst e1 e3
      obtain ⟨b, o, rfl, hcc⟩ := t3 (by omega)
      obtain ⟨u, hu, hI⟩ := hcc k hlt
      obtain ⟨Au, cu, rfl, -⟩ := hI.open_
      have hs := lenTo_succ l hlt
      have hle := lenTo_le l (k + 1)
      have HS := Lib.hid hs
      have h5 : (0 : Int) ≤ (lenTo l k : Int) := Int.natCast_nonneg _
      have h6 : (0 : Int) ≤ ((l.getD k []).length : Int) := Int.natCast_nonneg _
      have h7 : (lenTo l k : Int) + ((l.getD k []).length : Int) ≤ 1000000000000 := by omega
      clear hcc hI t1 t2 t3 hs hle
      generalize (l.getD k []).length = n at *
      generalize hm : lenTo l k = m at *
      have HM := Lib.hid hm
      clear hm
      go_wp2_with fail
      go_roundw
      case rel => exact ⟨k + 1, by omega, by go_num, congrArg (Value.int .i64) (by rw [HS.out]; omega), (by first | exact ⟨_, rfl⟩ | exact ex_drewN)⟩
      case measure => simp [intOf]; omega
    · obtain rfl : k = l.length := by omega
      have HE : Hid (lenTo l l.length = lenL l) := Lib.hid (by unfold lenTo; rw [List.take_length])
      go_wp2_with fail
      go_ret
      exact ⟨ret_int (by rw [HE.out]), below_drewN HB.out _⟩
end Go.Proofs
namespace Go.Proofs
open Go.RowKit Go.Shelf Go.Lib Go.Sort Go.Proofs.Ct Go.Proofs.Tz Go.Maps
theorem madeW (n : Nat) : madeCells (Value.slice none 0 0).cells n = Array.replicate n (.slice none 0 0) := by
  apply Array.ext_getElem?
  intro k
  simp only [madeCells, Value.cells, Array.getElem?_map, Array.getElem?_range, Array.getElem?_replicate]
  by_cases h : k < n
  · simp [h, Nat.mod_one]
  · simp [h]
theorem makeW (w : World) (n : Nat) (hn : n ≤ 8000000) : (Instr.makeSlice 25 (.int .i64 (n : Int)) (.int .i64 (n : Int))).run Try.prog w =
    .ok (.slice (some ⟨w.heap.size, 0, none⟩) n n) (w.alloc (.cells (Array.replicate n (.slice none 0 0)) 24)) := by
  obtain ⟨i, hi, hz, hs, hb⟩ := info25p
  have := run_makeSlice (P := Try.prog) w 25 24 i (.slice none 0 0) Try.underlying25 hi hz .i64 .i64 n n (by omega) (Int.le_refl _) (by rw [hs]; simp; omega) (by rw [hb]; omega) (by omega)
  rw [this, hs, Int.toNat_natCast, Nat.mul_one, madeW]
theorem ints_nil (w : World) : IntsAt w (.slice none 0 0) [] := ⟨⟨none, 0, 0, rfl, rfl, Nat.le_refl _, by simp [maxLen], fun h => absurd h (by simp)⟩, fun z hz => by cases hz⟩
/-- a list of n words just made -/
theorem OutSt.made (w0 wr : World) (hb : Below w0.heap.size w0 wr) (n : Nat) (hn : n ≤ 8000000) : OutSt 24 (fun _ => False) w0 (wr.alloc (.cells (Array.replicate n (.slice none 0 0)) 24)) (.slice (some ⟨wr.heap.size, 0, none⟩) n n) (List.replicate n []) := by
  refine ⟨hb.alloc hb.size _, ⟨List.replicate n (.slice none 0 0), ⟨by simp, .inr ⟨wr.heap.size, n, _, by rw [List.length_replicate], hb.size, heap_alloc_new wr _, by rw [List.length_replicate]; exact Nat.le_refl _, by unfold maxLen; omega, by simp, by simp⟩⟩, by simp, fun j hj => ?_⟩, fun k hk => hk.elim⟩
  rw [List.length_replicate] at hj
  refine ⟨.slice none 0 0, by simp [hj], ?_⟩
  rw [show (List.replicate n ([] : List Int)).getD j [] = [] by simp [List.getD_eq_getElem?_getD, hj]]
  exact fun w' _ => ints_nil w'
/-- a word takes a place in the list -/
theorem OutSt2.put {F : Nat → Prop} {w0 wr : World} {g n c k : Nat} {A : Option Addr} {m d : Nat} {rows : List (List Int)} {x : List Int} (h : OutSt2 24 F w0 wr (.slice (some ⟨g, 0, none⟩) n c) (.slice A m d) rows x) (hf : Fits x) (hk : k < rows.length) :
    OutSt 24 (fun r => F r ∨ (Value.slice A m d).ownBlock = some r) w0 (wr.setCell ⟨g, k, none⟩ (.slice A m d)) (.slice (some ⟨g, 0, none⟩) n c) (rows.set k x) ∧ (∃ z, wr.cell? ⟨g, k, none⟩ = some z) ∧ wr.frozen? ⟨g, k, none⟩ = false := by
  obtain ⟨vals, ⟨hlen, ho⟩, hr⟩ := h.st.out
  rcases ho with ⟨e, -⟩ | ⟨g', cap, cur, e, hb, hC, h1, hm, hs, ht⟩
  · cases e
  · injection e with e1 e2 e3
    injection e1 with e1
    injection e1 with e1
    subst e1 e2 e3
    rw [Nat.mul_one] at hs ht
    have hgl := (Array.getElem?_eq_some_iff.1 hC).1
    have hnew : (wr.setCell ⟨g, k, none⟩ (.slice A m d)).heap[g]? = some (.cells (cur.setIfInBounds k (.slice A m d)) 24 (0, 0)) := by
      rw [setCell_eq]
      simp [mapBlock, Array.getElem?_modify, hC, onCells]
    have hgb : wr.grownBy (wr.setCell ⟨g, k, none⟩ (.slice A m d)) (some g) := ⟨rfl, rfl, rfl, by simp [World.setCell], fun r _ hne => Below.heap_setCell wr ⟨g, k, none⟩ _ r (fun e => hne (by rw [e]))⟩
    have hne : ∀ {r : Nat} {C : Array Value} {fr : Nat × Nat}, wr.heap[r]? = some (.cells C 3 fr) → r ≠ g := fun {r C fr} hc e => by
      subst e
      rw [hC] at hc
      injection hc with h5
      injection h5 with _ h6 _
      exact absurd h6 (by decide)
    have hFg : ∀ r, F r → r < wr.heap.size ∧ some g ≠ some r := fun r hr => by
      obtain ⟨-, h2, C, hc⟩ := h.st.fs r hr
      exact ⟨h2, fun e => hne hc (Option.some.inj e).symm⟩
    have hUg : ∀ r, (Value.slice A m d).ownBlock = some r → w0.heap.size ≤ r ∧ r < wr.heap.size ∧ some g ≠ some r ∧ ∃ C, wr.heap[r]? = some (.cells C 3 (0, 0)) := fun r hr => by
      obtain ⟨h2, C, hc⟩ := owns_block h.row r hr
      exact ⟨h2, (Array.getElem?_eq_some_iff.1 hc).1, fun e => hne hc (Option.some.inj e).symm, C, hc⟩
    have hvl := hr.1
    refine ⟨⟨h.st.below.trans ⟨rfl, rfl, rfl, by simp [World.setCell], fun r hr => Below.heap_setCell wr ⟨g, k, none⟩ _ r (by show r ≠ g; omega)⟩, ⟨vals.set k (.slice A m d), ⟨by rw [List.length_set, List.length_set]; omega, .inr ⟨g, c, _, by rw [List.length_set], hb, hnew, by rw [List.length_set]; exact h1, hm, by simp [hs], ?_⟩⟩, by rw [List.length_set, List.length_set]; exact hvl, fun j hj => ?_⟩, fun r hr => ?_⟩, ⟨cur[k]'(by omega), ?_⟩, by simp [World.frozen?, hC]⟩
    · rw [List.length_set, Nat.mul_one, Array.toList_setIfInBounds, List.take_set, ht]
    · rw [List.length_set] at hj
      by_cases e : k = j
      · subst e
        refine ⟨.slice A m d, by rw [List.getElem?_set_self (by omega)], ?_⟩
        rw [show (rows.set k x).getD k [] = x by simp [List.getD_eq_getElem?_getD, hj]]
        have h7 := IntsF.of_own h.row hf
        exact (h7.keep fun r hr => hgb.block r (hUg r hr).2.1 (fun e => (hUg r hr).2.2.1 e.symm)).mono fun r hr => .inr hr
      · obtain ⟨u, hu, hx⟩ := hr.2 j hj
        refine ⟨u, by rw [List.getElem?_set_ne e]; exact hu, ?_⟩
        rw [show (rows.set k x).getD j [] = rows.getD j [] by simp [List.getD_eq_getElem?_getD, List.getElem?_set_ne e]]
        exact (hx.keep (Ag.grown hgb hFg)).mono fun r hr => .inl hr
    · rcases hr with hr | hr
      · obtain ⟨a1, a2, C, hc⟩ := h.st.fs r hr
        exact ⟨a1, Nat.lt_of_lt_of_le a2 hgb.size, C, grown_cells hgb hc (hFg r hr).2⟩
      · obtain ⟨a1, a2, a3, C, hc⟩ := hUg r hr
        exact ⟨a1, Nat.lt_of_lt_of_le a2 hgb.size, C, grown_cells hgb hc a3⟩
    · rw [cell_of_row _ _ _ _ _ _ hC]
      exact Array.getElem?_eq_getElem _
/-- the first k words are replaced -/
def repTo (G l : List (List Int)) (k : Nat) : List (List Int) := (l.take k).map (sbW G) ++ List.replicate (l.length - k) []
theorem repTo_len (G l : List (List Int)) {k : Nat} (hk : k ≤ l.length) : (repTo G l k).length = l.length := by
  unfold repTo
  rw [List.length_append, List.length_map, List.length_take, List.length_replicate]
  omega
theorem repTo_succ (G l : List (List Int)) {k : Nat} (hk : k < l.length) : (repTo G l k).set k (sbW G (l.getD k [])) = repTo G l (k + 1) := by
  unfold repTo
  have e : l.getD k [] = l[k] := by simp [List.getD_eq_getElem?_getD, hk]
  obtain ⟨m, hm⟩ : ∃ m, l.length - k = m + 1 := ⟨l.length - k - 1, by omega⟩
  rw [e, hm, show l.length - (k + 1) = m by omega, List.set_append_right _ _ (by rw [List.length_map, List.length_take]; omega), List.length_map, List.length_take, Nat.min_eq_left (by omega), Nat.sub_self, List.replicate_succ, List.set_cons_zero, List.take_succ_eq_append_getElem hk, List.map_append, List.append_assoc]
  rfl
theorem repTo_all (G l : List (List Int)) : repTo G l l.length = l.map (sbW G) := by
  unfold repTo
  rw [List.take_length, Nat.sub_self]
  simp
theorem sbL_bad {G l : List (List Int)} {k : Nat} (hk : k < l.length) (h : ¬ (sbW G (l.getD k [])).length ≤ 4000) : sbL G l = none := by
  unfold sbL
  rw [if_neg]
  intro ha
  refine h ?_
  have := List.all_eq_true.1 ha (l.getD k []) (by rw [List.getD_eq_getElem?_getD, List.getElem?_eq_getElem hk]; exact List.getElem_mem hk)
  exact of_decide_eq_true this
theorem sbL_good {G l : List (List Int)} (h : ∀ k, k < l.length → (sbW G (l.getD k [])).length ≤ 4000) : sbL G l = some (l.map (sbW G)) := by
  unfold sbL
  rw [if_pos]
  rw [List.all_eq_true]
  intro z hz
  obtain ⟨i, hi, rfl⟩ := List.getElem_of_mem hz
  have := h i hi
  rw [List.getD_eq_getElem?_getD, List.getElem?_eq_getElem hi] at this
  exact decide_eq_true this
/-- all words of a list are replaced -/
def RepPost (G l : List (List Int)) (w : World) (e : Ending) (w' : World) : Prop :=
  (match sbL G l with
  | none => e = .returned (.tuple #[.slice none 0 0, .int .i64 4])
  | some m => ∃ A c F, e = .returned (.tuple #[.slice A m.length c, .int .i64 0]) ∧ OutSt 24 F w w' (.slice A m.length c) m) ∧ Below w.heap.size w w'
set_option maxRecDepth 100000 in
set_option maxHeartbeats 4000000 in
theorem replace24_ok (w : World) (u v : Value) (l G : List (List Int)) (hu : Tab w u l) (hG : Tab w v G) (hll : l.length ≤ 1000) (hwl : ∀ j, j < l.length → (l.getD j []).length ≤ 4000) (hok : ∀ j, j < l.length → ∀ x ∈ l.getD j [], Mild x ∧ x ≠ 0 ∧ x.natAbs ≤ G.length) (hm : ∀ j, ∀ y ∈ G.getD j [], Mild y) (hl : ∀ j, (G.getD j []).length ≤ 1000) : Calls Try.prog 24 #[u, v] w (RepPost G l w) := by
  obtain ⟨Ag, cg, rfl⟩ := Tab.form hG
  obtain ⟨Al, cl, rfl⟩ := Tab.form hu
  have HSUB : Hid (∀ W z uz, Below w.heap.size w W → IntsAt W uz z → z.length ≤ 4000 → (∀ x ∈ z, Mild x ∧ x ≠ 0 ∧ x.natAbs ≤ G.length) → Calls Try.prog 42 #[uz, .slice Ag G.length cg] W (SubPost (sbW G z) W)) := Lib.hid fun W z uz hb h1 h2 h3 => subst42_ok W uz _ z G h1 (kept_tab.below hG hb) h2 h3 hm hl
  have HU := Lib.hid hu
  have HWL := Lib.hid hwl
  have HOK := Lib.hid hok
  have HMM := Lib.hid hm
  have hl0 : (0 : Int) ≤ (l.length : Int) := Int.natCast_nonneg _
  have hl1 : (l.length : Int) ≤ 1000 := by omega
  have HMK := Lib.hid (makeW w l.length (by omega))
  have HST := Lib.hid (OutSt.made w w (Below.refl _ _) l.length (by omega))
  clear hu hG hwl hok hm hl
  go_enter Try.func24, Try.ntmps24
  go_wp2_with ((with_reducible refine wpList_sel 13 ?_); refine wpList_val rfl (r_make 25 (.tmp 12) (.tmp 12) rfl rfl rfl HMK.out) ?_)
  generalize hw1 : w.alloc (.cells (Array.replicate l.length (.slice none 0 0)) 24) = w1 at *
  have HW1 := Lib.hid hw1
  clear hw1 HMK
  go_loopw [7, 8, 9, 10, 16, 21, 22, 23, 24, 25, 26] (fun _ _ _ _ z _ _ _ _ _ _ wr => ∃ (k : Nat) (F : Nat → Prop), k ≤ l.length ∧ z = .int .i64 k ∧ (∀ j, j < k → (sbW G (l.getD j [])).length ≤ 4000) ∧ Hid (OutSt 24 F w wr (.slice (some ⟨w.heap.size, 0, none⟩) l.length l.length) (repTo G l k))) (fun _ _ _ _ z _ _ _ _ _ _ _ => l.length - (intOf z).toNat)
  case atStart => exact ⟨0, _, Nat.zero_le _, rfl, fun j hj => absurd hj (by omega), Lib.hid (by unfold repTo; exact HST.out)⟩
  case round =>
    clear HST
    obtain ⟨k, F, hk, rfl, hz, HS⟩ := hrel
    have HZ := Lib.hid hz
    clear hz
    have hk0 : (0 : Int) ≤ (k : Int) := Int.natCast_nonneg _
    by_cases hlt : k < l.length
    · have hlt' : (k : Int) < (l.length : Int) := by omega
      obtain ⟨A', c', e', t1, t2, t3⟩ := (kept_tab.below HU.out HS.out.below).open_
      injection e' with e1 _ e3
      subst e1 e3
      obtain ⟨b, o, rfl, hcc⟩ := t3 (by omega)
      obtain ⟨uz, huz, hI⟩ := hcc k hlt
      have HC : Hid (Calls Try.prog 42 #[uz, .slice Ag G.length cg] wr (SubPost (sbW G (l.getD k [])) wr)) := Lib.hid (HSUB.out wr _ uz HS.out.below hI (HWL.out k hlt) (HOK.out k hlt))
      have HBAD := Lib.hid (fun h => sbL_bad (G := G) hlt h)
      have HSET := Lib.hid (repTo_succ G l hlt)
      have HFT : Hid (Fits (sbW G (l.getD k []))) := Lib.hid (Mild.fits (sbTo_mild HMM.out _ _))
      have hrl := repTo_len G l (k := k) (by omega)
      obtain ⟨Au, cu, rfl, -⟩ := hI.open_
      unfold SubPost at HC
      clear hcc hI t1 t2 t3
      generalize (l.getD k []).length = lz at *
      generalize hS : sbW G (l.getD k []) = S at *
      have HSE := Lib.hid hS
      clear hS
      by_cases hS : S.length ≤ 4000
      · simp only [if_pos hS] at HC
        have HSL := Lib.hid hS
        clear hS
        go_wp2_with (go_at_call 42; (refine HC.out.mono ?_); rintro e w2 ⟨⟨A5, c5, rfl, ho⟩, hb⟩
                     obtain ⟨hP, ⟨z, hcz⟩, hfz⟩ := (HS.out.with_row hb ho).put HFT.out (k := k) (by omega)
                     rw [HSET.out] at hP
                     have HP := Lib.hid hP
                     clear hP ho hb)
        go_roundw
        case rel => exact ⟨k + 1, _, by omega, by go_num, all_succ HZ.out (by rw [HSE.out]; exact HSL.out), Lib.hid HP.out⟩
        case measure => simp [intOf]; omega
      · simp only [if_neg hS] at HC
        have HE := Lib.hid (HBAD.out hS)
        clear hS
        go_wp2_with (go_at_call 42; (refine HC.out.mono ?_); rintro e w2 ⟨rfl, hb⟩)
        go_ret2
        refine ⟨?_, HS.out.below.trans (hb.mono HS.out.below.size)⟩
        rw [HE.out]
        rfl
    · obtain rfl : k = l.length := by omega
      have HE := Lib.hid (sbL_good HZ.out)
      rw [repTo_all] at HS
      go_wp2_with fail
      go_ret2
      refine ⟨?_, HS.out.below⟩
      rw [HE.out]
      have hml : (l.map (sbW G)).length = l.length := List.length_map _
      exact ⟨_, l.length, F, by rw [hml]; rfl, by rw [hml]; exact HS.out⟩
end Go.Proofs
