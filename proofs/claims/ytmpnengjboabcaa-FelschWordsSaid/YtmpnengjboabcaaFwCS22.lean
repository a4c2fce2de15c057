/- The reference of Felsch's strategy: the list of the letters' words grows; The reference of Felsch's strategy; The laws of chapter 19: long, awake; The walk of FelschWords; Arguments opened: lists of numbers, tables, presentations; Arguments opened: presentations; Closed facts of the program (A); Closed facts of the program (B); Closed facts of the program (C); Closed facts of the program (D); The closed facts of a statement, one by one. -/
import Derived.Test.YtmpnengjboabcaaFwCS17
import Derived.Test.YtmpnengjboabcaaFwCS18
import Derived.Test.YtmpnengjboabcaaFwCS21
import Derived.Test.YtmpnengjboabcaaFwCS8
import Derived.Test.YtmpnengjboabcaaFwCS9
import Derived.Test.YtmpnengjboabcaaFwCS6
import Derived.Test.YtmpnengjboabcaaFwCS3
import Derived.ProofKit
import Derived.Deep.Slices
import Derived.Deep.Strs
import Derived.Test.YtmpnengjboabcaaRows
import Derived.Test.YtmpnengjboabcaaChecked
import Derived.OpenShut
import Derived.JoinedOf
namespace Go.Proofs
open Go.RowKit Go.Shelf Go.Proofs.Ct Go.Maps
theorem under167e : Try.prog.underlying 167 = some (.slice 31) := by kernel_rfl
theorem info31p : ∃ i, Try.prog.info? 31 = some i ∧ i.zero = some (.slice none 0 0) ∧ i.size = 1 ∧ i.bytes = 24 := by
  have h : (Try.prog.info? 31).map (fun i => (i.zero, i.size, i.bytes)) = some (some (.slice none 0 0), 1, 24) := by kernel_rfl
  cases hq : Try.prog.info? 31 with
  | none => simp [hq] at h
  | some i => simp [hq] at h; exact ⟨i, rfl, h⟩
/-- append of one element, wherever its block lies -/
theorem push_at {t ty e : TypeId} {z : Value} {bytes : Nat} (ht : Try.prog.underlying t = some (.slice e)) (hi : ∃ i, Try.prog.info? e = some i ∧ i.zero = some z ∧ i.size = 1 ∧ i.bytes = bytes) (hz : z.cells.size = 1) (hby : bytes ≤ 1000)
    (w : World) (base : Nat) (v : Value) (n : Nat) (xs : List Value) (hown : w.ownsRow base e 1 v n xs) (x : Value) (h1 : x.oneCell' = true) (hn : n ≤ 10000000) (hb : base ≤ w.heap.size) (h : Nat) (hx : w.heap[h]? = some (.cells #[x] e (0, 0))) :
    ∃ A' c' w', (Builtin.append_ #[t, t] ty #[v, .slice (some ⟨h, 0, none⟩) 1 1]).run Try.prog w = .ok (.slice A' (n + 1) c') w' ∧ w'.ownsRow base e 1 (.slice A' (n + 1) c') (n + 1) (xs ++ [x]) ∧
      w.grownBy w' v.ownBlock ∧ ((Value.slice A' (n + 1) c').ownBlock = v.ownBlock ∨ ∃ r, (Value.slice A' (n + 1) c').ownBlock = some r ∧ w.heap.size ≤ r) := by
  obtain ⟨i, hi, hz', hs, hb'⟩ := hi
  obtain ⟨v', w', hr, hown', hg, -, hw⟩ := run_append_own_at (P := Try.prog) w base t ty e i z 1 bytes ht hi hz' hs hb' hz (by omega) v n xs hown ⟨h, 0, none⟩ 1 1 [x] rfl (fun j u hj => by
      rw [Addr.add_lit, cell_of_row _ _ _ _ _ _ hx, Nat.zero_add]
      simpa using hj) (fun u hu => by simp at hu; rw [hu]; exact h1) (by unfold maxLen; omega)
    (by have : (n + 1) * bytes ≤ 10000001 * 1000 := Nat.mul_le_mul (by omega) hby
        omega) hb
  obtain ⟨A', c', rfl⟩ := owns_form hown'
  refine ⟨A', c', w', hr, hown', hg, ?_⟩
  rcases hw with hw | hw
  · exact .inl hw
  · exact .inr ⟨_, hw, by simp⟩
/-- the list of the first c letters' words -/
def LstQ (b c : Nat) (ws : Nat → List W) (fm : Nat → Value) (v : Value) (W : World) : Prop := ∃ F : Nat → Prop, W.ownsRow (b + 1) 31 1 v c ((List.range c).map fm) ∧ (∀ k, F k → b + 1 ≤ k ∧ k < W.heap.size ∧ v.ownBlock ≠ some k) ∧ ∀ j, j < c → RdT F W (fm j) (ws j)
section
variable {b c : Nat} {ws : Nat → List W} {fm : Nat → Value} {v : Value} {W W' : World}
theorem LstQ.keep (h : LstQ b c ws fm v W) (hs : W.heap.size ≤ W'.heap.size) (hk : ∀ k, b + 1 ≤ k → k < W.heap.size → W'.heap[k]? = W.heap[k]?) : LstQ b c ws fm v W' := by
  obtain ⟨F, h1, h2, h3⟩ := h
  exact ⟨F, owns_keep h1 fun r hr => hk r (owns_block h1 r hr).1 (owns_lt h1 hr), fun k hF => ⟨(h2 k hF).1, Nat.lt_of_lt_of_le (h2 k hF).2.1 hs, (h2 k hF).2.2⟩, fun j hj => (h3 j hj).keep fun k hF => hk k (h2 k hF).1 (h2 k hF).2.1⟩
theorem LstQ.push (h : LstQ b c ws fm v W) (hc : c ≤ 1000) (hb : b + 1 ≤ W.heap.size) {x : Value} (h1 : x.oneCell' = true) {q : Nat} (hx : W.heap[q]? = some (.cells #[x] 31 (0, 0))) {G : Nat → Prop} (hG : ∀ k, G k → b + 1 ≤ k ∧ k < W.heap.size ∧ v.ownBlock ≠ some k) (hr : RdT G W x (ws c)) (ty : TypeId) :
    ∃ A' k' w', (Builtin.append_ #[167, 167] ty #[v, .slice (some ⟨q, 0, none⟩) 1 1]).run Try.prog W = .ok (.slice A' (c + 1) k') w' ∧ LstQ b (c + 1) ws (fun j => if j = c then x else fm j) (.slice A' (c + 1) k') w' ∧ W.grownBy w' v.ownBlock := by
  obtain ⟨F, o1, o2, o3⟩ := h
  obtain ⟨A', k', w', hrun, ho, hg, hw⟩ := push_at (ty := ty) under167e info31p rfl (by omega) W (b + 1) v c _ o1 x h1 (by omega) hb q hx
  have hag : ∀ {G' : Nat → Prop}, (∀ k, G' k → b + 1 ≤ k ∧ k < W.heap.size ∧ v.ownBlock ≠ some k) → Ag G' W w' := fun h => Ag.grown hg fun k hk => ⟨(h k hk).2.1, (h k hk).2.2⟩
  have hnb : ∀ {k : Nat}, k < W.heap.size → v.ownBlock ≠ some k → (Value.slice A' (c + 1) k').ownBlock ≠ some k := fun {k} h1 h2 e => by
    rcases hw with hw | ⟨r, hw, hge⟩
    · exact h2 (hw ▸ e)
    · rw [hw] at e
      exact absurd (Option.some.inj e ▸ hge) (Nat.not_le.2 h1)
  refine ⟨A', k', w', hrun, ⟨fun k => F k ∨ G k, ?_, fun k hk => ?_, fun j hj => ?_⟩, hg⟩
  · have e : (List.range (c + 1)).map (fun j => if j = c then x else fm j) = (List.range c).map fm ++ [x] := by
      have e1 : (List.range c).map (fun j => if j = c then x else fm j) = (List.range c).map fm := List.map_congr_left fun j hj => if_neg (Nat.ne_of_lt (List.mem_range.1 hj))
      rw [List.range_succ, List.map_append, e1, List.map_cons, List.map_nil, if_pos rfl]
    rw [e]; exact ho
  · rcases hk with hk | hk
    · obtain ⟨a1, a2, a3⟩ := o2 k hk
      exact ⟨a1, Nat.lt_of_lt_of_le a2 hg.size, hnb a2 a3⟩
    · obtain ⟨a1, a2, a3⟩ := hG k hk
      exact ⟨a1, Nat.lt_of_lt_of_le a2 hg.size, hnb a2 a3⟩
  · by_cases e : j = c
    · subst e
      simp only [if_true]
      exact (hr.keep (hag hG)).mono fun k hk => .inr hk
    · simp only [if_neg e]
      exact ((o3 j (by omega)).keep (hag o2)).mono fun k hk => .inl hk
end
/-- what the operations bring that lay a letter's words into the list -/
def WqF (b c lo : Nat) (lv pv : Value) (ws : Nat → List W) (fm : Nat → Value) : Nat → Value → World → Prop
  | 8, v, w => ∃ A n k F, v = .slice A n k ∧ (∀ q, F q → lo ≤ q ∧ q < w.heap.size) ∧ RdT F w v (ws c)
  | 9, v, w => ∃ h x F, v = .slice (some ⟨h, 0, none⟩) 1 1 ∧ lo ≤ h ∧ w.heap[h]? = some (.cells #[x] 31 (0, 0)) ∧ x.oneCell' = true ∧ (∀ q, F q → lo ≤ q ∧ q < w.heap.size) ∧ RdT F w x (ws c)
  | 10, v, w => ∃ A k x, v = .slice A (c + 1) k ∧ LstQ b (c + 1) ws (fun j => if j = c then x else fm j) v w
  | i, v, _ => v = ([.pointer (some ⟨b, 0, none⟩), .pointer (some ⟨b, 0, none⟩), .pointer (some ⟨b, 0, none⟩), .pointer (some ⟨b, 4, none⟩), lv, pv, .int .i64 (c : Int), .int .i64 (letter c), undef, undef, undef, .pointer (some ⟨b, 0, none⟩), .pointer (some ⟨b, 4, none⟩), undef] : List Value).getD i undef
def WqG (b lo : Nat) (i : Nat) (w w' : World) : Prop := w.heap.size ≤ w'.heap.size ∧ (i ≠ 10 → ∀ k, b + 1 ≤ k → k < w.heap.size → w'.heap[k]? = w.heap[k]?) ∧ ∀ k, lo ≤ k → k < w.heap.size → w'.heap[k]? = w.heap[k]?
theorem WqG.same {b lo i : Nat} {w : World} : WqG b lo i w w := ⟨Nat.le_refl _, fun _ _ _ _ => rfl, fun _ _ _ => rfl⟩
theorem WqG.of_below {b lo i : Nat} {w w' : World} (h : Below w.heap.size w w') : WqG b lo i w w' := ⟨h.size, fun _ k _ h2 => h.block k h2, fun k _ h2 => h.block k h2⟩
theorem WqF.keep {b c lo : Nat} {lv pv : Value} {ws : Nat → List W} {fm : Nat → Value} : ∀ (i j : Nat) (v : Value) (w w' : World), i < 14 → j < 14 → i ≠ j → WqG b lo i w w' → WqF b c lo lv pv ws fm j v w → WqF b c lo lv pv ws fm j v w' := by
  intro i j v w w' _ hj hne hS h
  have hcases : j = 8 ∨ j = 9 ∨ j = 10 ∨ (j ≠ 8 ∧ j ≠ 9 ∧ j ≠ 10) := by omega
  rcases hcases with rfl | rfl | rfl | ⟨h1, h2, h3⟩
  · obtain ⟨A, n, k, F, e, hF, hr⟩ := h
    exact ⟨A, n, k, F, e, fun q hq => ⟨(hF q hq).1, Nat.lt_of_lt_of_le (hF q hq).2 hS.1⟩, hr.keep fun q hq => hS.2.2 q (hF q hq).1 (hF q hq).2⟩
  · obtain ⟨q, x, F, e, hl, hx, ho, hF, hr⟩ := h
    exact ⟨q, x, F, e, hl, (hS.2.2 q hl (Array.getElem?_eq_some_iff.1 hx).1).trans hx, ho, fun q hq => ⟨(hF q hq).1, Nat.lt_of_lt_of_le (hF q hq).2 hS.1⟩, hr.keep fun q hq => hS.2.2 q (hF q hq).1 (hF q hq).2⟩
  · obtain ⟨A, k, x, e, hL⟩ := h
    exact ⟨A, k, x, e, hL.keep hS.1 (hS.2.1 hne)⟩
  · unfold WqF at h ⊢
    split at h <;> first | contradiction | exact h
end Go.Proofs
namespace Go.Proofs
open Go.RowKit Go.Shelf Go.Proofs.Ct Go.Maps
theorem StG.nums {K : Nat → Prop} {T : TypeId} {wv : Value} {base b lim : Nat} {w : World} {f : FS} (h : StG K T wv base b lim w f) : w.cell? ⟨b, 6, none⟩ = some (.int .i64 f.s.live) ∧ w.cell? ⟨b, 7, none⟩ = some (.int .i64 f.s.most) := by
  obtain ⟨bl, cs, -, P, vr, vp, vq, vk, hB, -⟩ := h
  exact ⟨hB.cells.2.2.2.2.2.2.1, hB.cells.2.2.2.2.2.2.2⟩
theorem StG.rows {K : Nat → Prop} {T : TypeId} {wv : Value} {base b lim : Nat} {w : World} {f : FS} (h : StG K T wv base b lim w f) : ∃ A c, w.cell? ⟨b, 0, none⟩ = some (.slice A f.s.t.length c) := by
  obtain ⟨bl, cs, -, P, vr, vp, vq, vk, hB, hC, -⟩ := h
  obtain ⟨A, c, rfl⟩ := owns_form hC.out
  exact ⟨A, c, hB.cells.2.2.1⟩
end Go.Proofs
namespace Go.Proofs
open Go.RowKit Go.Shelf Go.Proofs.Ct Go.Maps
set_option maxRecDepth 100000 in
set_option maxHeartbeats 1000000 in
theorem long78_any (w : World) (v : Value) (t : Tb) (ht : Tab w v t) : Calls Try.prog 78 #[v] w fun e w' => LongSaid t e ∧ w' = w := by
  obtain ⟨A, c, rfl, h1, h2, h3⟩ := ht.open_
  have HT := Lib.hid h3
  clear h3 ht
  have hn0 : (0 : Int) ≤ (t.length : Int) := Int.natCast_nonneg _
  go_enter Try.func78, Try.ntmps78
  go_wp2_with fail
  go_loopw [3] (fun i wr => ∃ k : Nat, i = .int .i64 k ∧ k ≤ t.length ∧ k ≤ 111 ∧ Hid (∀ j, j < k → (t.getD j []).length ≤ 60) ∧ wr = w) (fun i _ => t.length - (intOf i).toNat)
  case atStart => exact ⟨0, rfl, by omega, by omega, Lib.hid (fun j hj => absurd hj (Nat.not_lt_zero _)), rfl⟩
  case round =>
    obtain ⟨k, rfl, hk, hk41, HL, rfl⟩ := hrel
    have hk0 : (0 : Int) ≤ (k : Int) := Int.natCast_nonneg _
    by_cases hlt : k < t.length
    · have hlt' : (k : Int) < (t.length : Int) := by omega
      by_cases h41 : k < 111
      · have h41' : (k : Int) < 111 := by omega
        obtain ⟨b, o, rfl, hcc⟩ := HT.out (by omega)
        obtain ⟨u, hu, hI⟩ := hcc k hlt
        obtain ⟨Au, cu, rfl, -, -, -⟩ := hI.open_
        have HL2 : Hid ((t.getD k []).length ≤ 60 → ∀ j, j < k + 1 → (t.getD j []).length ≤ 60) := Lib.hid fun h => all_succ HL.out h
        clear hcc hI
        generalize (t.getD k []).length = rl at *
        have hrl0 : (0 : Int) ≤ (rl : Int) := Int.natCast_nonneg _
        by_cases hr : 60 < rl
        · have hr' : (60 : Int) < (rl : Int) := by omega
          have HD : Hid (LongSaid t (.returned (.bool true))) := Lib.hid ⟨true, rfl, fun h => by cases h⟩
          go_wp2_with fail
          go_ret
          exact ⟨HD.out, (by first | trivial | rfl)⟩
        · have hr' : ¬ (60 : Int) < (rl : Int) := by omega
          have HL3 := Lib.hid (HL2.out (by omega))
          by_cases h10 : 10 ≤ k
          · have h10' : (10 : Int) ≤ (k : Int) := by omega
            by_cases hr3 : 3 < rl
            · have hr3' : (3 : Int) < (rl : Int) := by omega
              have HD : Hid (LongSaid t (.returned (.bool true))) := Lib.hid ⟨true, rfl, fun h => by cases h⟩
              go_wp2_with fail
              go_ret
              exact ⟨HD.out, (by first | trivial | rfl)⟩
            · have hr3' : ¬ (3 : Int) < (rl : Int) := by omega
              go_wp2_with fail
              go_roundw
              case rel => exact ⟨k + 1, by go_num, by omega, by omega, HL3, (by first | trivial | rfl)⟩
              case measure => simp [intOf]; omega
          · have h10' : ¬ (10 : Int) ≤ (k : Int) := by omega
            go_wp2_with fail
            go_roundw
            case rel => exact ⟨k + 1, by go_num, by omega, by omega, HL3, (by first | trivial | rfl)⟩
            case measure => simp [intOf]; omega
      · have h41' : ¬ (k : Int) < 111 := by omega
        have hbig : (110 : Int) < (t.length : Int) := by omega
        have HD : Hid (LongSaid t (.returned (.bool true))) := Lib.hid ⟨true, rfl, fun h => by cases h⟩
        go_wp2_with fail
        go_ret
        exact ⟨HD.out, (by first | trivial | rfl)⟩
    · have hlt' : ¬ (k : Int) < (t.length : Int) := by omega
      by_cases hbig : 110 < t.length
      · have hbig' : (110 : Int) < (t.length : Int) := by omega
        have HD : Hid (LongSaid t (.returned (.bool true))) := Lib.hid ⟨true, rfl, fun h => by cases h⟩
        go_wp2_with fail
        go_ret
        exact ⟨HD.out, (by first | trivial | rfl)⟩
      · have hbig' : ¬ (110 : Int) < (t.length : Int) := by omega
        have HD : Hid (LongSaid t (.returned (.bool false))) := Lib.hid ⟨false, rfl, fun _ => ⟨by omega, fun j => by
          rcases Nat.lt_or_ge j k with hj | hj
          · exact HL.out j hj
          · rw [List.getD_eq_getElem?_getD, List.getElem?_eq_none (by omega)]
            exact Nat.zero_le _⟩⟩
        go_wp2_with fail
        go_ret
        exact ⟨HD.out, (by first | trivial | rfl)⟩
def cubeT : List (List Int) := [[1, 1, 1]]
def wakeF : List (List Int) := [[1, 2], [2, 0], [0, 1]]
theorem wake_felsch : felschE 1 cubeT [] 3 = (wakeF, (3, 3), 0) := by decide +kernel
set_option maxRecDepth 100000 in
set_option maxHeartbeats 1000000 in
theorem awake79_any (w : World) : Calls Try.prog 79 #[] w fun e w' => e = .returned (.bool true) ∧ Below w.heap.size w w' := by
  have HE := Lib.hid (fun W vr vs (h1 : Tab W vr cubeT) (h2 : Tab W vs []) => (felsch85_B W vr vs 1 cubeT [] 3 h1 h2 (fun j => by
      rcases j with _ | j
      · simp [cubeT]
      · simp [cubeT]) (fun j => by simp) (by simp) (.inl (by decide))).mono fun e w' (⟨⟨u, h1, h2⟩, h3⟩ : FelschPost 1 cubeT [] 3 W e w') => by
    rw [wake_felsch] at h1 h2
    exact (⟨⟨u, h1, h2.at_⟩, h3⟩ : (∃ u, e = .returned (.tuple #[u, .agg #[.int .i64 3, .int .i64 3, .int .i64 0], .int .i64 0]) ∧ Tab w' u wakeF) ∧ Below W.heap.size W w'))
  have HS := Lib.hid fun (W : World) (a b : Value) (h1 : Tab W a wakeF) (h2 : Tab W b wakeF) => (same18_any W a b wakeF wakeF h1 h2)
  have hq := eql49g 3 3 0
  have HL1 := Lib.hid (lit1 w [1, 1, 1] (by unfold Fits; decide) (n := 3) rfl (by omega) (e := 25))
  have HB1 : Hid (Below w.heap.size w ((w.alloc (.cells (ints [1, 1, 1]).toArray 3)).alloc (.cells #[.slice (some ⟨w.heap.size, 0, none⟩) 3 3] 25))) := Lib.hid (((Below.refl _ _).alloc (Nat.le_refl _) _).alloc (by simp) _)
  have HL3 : Hid (∀ W : World, Tab ((((((W.alloc (.cells #[.int .i64 3, .int .i64 3, .int .i64 0] 49)).alloc (.cells #[.int .i64 1, .int .i64 2] 3)).alloc (.cells #[.int .i64 2, .int .i64 0] 3)).alloc (.cells #[.int .i64 0, .int .i64 1] 3)).alloc (.cells #[.slice (some ⟨W.heap.size + 1, 0, none⟩) 2 2, .slice (some ⟨W.heap.size + 1 + 1, 0, none⟩) 2 2, .slice (some ⟨W.heap.size + 1 + 1 + 1, 0, none⟩) 2 2] 24))) (.slice (some ⟨W.heap.size + 1 + 1 + 1 + 1, 0, none⟩) 3 3) wakeF ∧ Below W.heap.size W ((((((W.alloc (.cells #[.int .i64 3, .int .i64 3, .int .i64 0] 49)).alloc (.cells #[.int .i64 1, .int .i64 2] 3)).alloc (.cells #[.int .i64 2, .int .i64 0] 3)).alloc (.cells #[.int .i64 0, .int .i64 1] 3)).alloc (.cells #[.slice (some ⟨W.heap.size + 1, 0, none⟩) 2 2, .slice (some ⟨W.heap.size + 1 + 1, 0, none⟩) 2 2, .slice (some ⟨W.heap.size + 1 + 1 + 1, 0, none⟩) 2 2] 24)))) := Lib.hid fun W => by
    have h := lit3 (W.alloc (.cells #[.int .i64 3, .int .i64 3, .int .i64 0] 49)) [1, 2] [2, 0] [0, 1] (by unfold Fits; decide) (by unfold Fits; decide) (by unfold Fits; decide) (n := 2) (m := 2) (l := 2) rfl rfl rfl ⟨by omega, by omega, by omega⟩ (e := 24)
    simp only [World.size_alloc] at h
    exact ⟨h, (((((Below.refl _ _).alloc (Nat.le_refl _) _).alloc (by simp) _).alloc (by simp; omega) _).alloc (by simp; omega) _).alloc (by simp; omega) _⟩
  go_enter Try.func79, Try.ntmps79
  go_wp2_with (first
    | (go_at_call 85; (refine (HE.out _ _ _ HL1.out tab_nil).mono ?_); rintro e w2 ⟨⟨u, rfl, ht⟩, hb⟩
       have HT2 := Lib.hid ht
       have HB2 := Lib.hid (HB1.out.trans (hb.mono HB1.out.size))
       obtain ⟨A2, c2, rfl⟩ := Tab.form ht
       have HBa : Hid (Below w2.heap.size w2 (w2.alloc (.cells #[.int .i64 3, .int .i64 3, .int .i64 0] 49))) := Lib.hid ((Below.refl _ _).alloc (Nat.le_refl _) _)
       clear ht hb)
    | (go_at_call 42; (with_reducible refine (HS.out _ _ _ (kept_tab.below HT2.out (HL3.out w2).2) (HL3.out w2).1).mono ?_); rintro e w4 ⟨rfl, q, rfl⟩))
  go_ret
  exact ⟨ret_bool (by simp), below_drewN (HB2.out.trans ((HL3.out w2).2.mono HB2.out.size)) _⟩
end Go.Proofs
namespace Go.Proofs
open Go.RowKit Go.Shelf Go.Proofs.Ct Go.Maps
set_option maxRecDepth 100000 in
set_option maxHeartbeats 1000000 in
theorem plain82_any (w : World) (v : Value) (l : List (List Int)) (h : Tab w v l) (hl : l.length ≤ 1000000) : Calls Try.prog 82 #[v] w fun e w' => (∃ A c, e = .returned (.slice A l.length c) ∧ Tab w' (.slice A l.length c) l) ∧ Below w.heap.size w w' := by
  obtain ⟨vals, ⟨Av, nv, cv, rfl, hn, hc1, hc2, hcc⟩, hvl, hrows⟩ := h
  have hnl : nv = l.length := by rw [← hvl, hn]
  subst hnl
  have HCC := Lib.hid hcc
  have HVL := Lib.hid hvl
  have HROW : Hid (∀ i, i < l.length → ∃ A c, vals[i]? = some (.slice A (l.getD i []).length c) ∧ IntsAt w (.slice A (l.getD i []).length c) (l.getD i [])) := Lib.hid fun i hi => by
    obtain ⟨u, h1, h2⟩ := hrows i hi
    obtain ⟨A, c, rfl, -, -, -⟩ := h2.open_
    exact ⟨A, c, h1, h2⟩
  have hn0 : (0 : Int) ≤ (l.length : Int) := Int.natCast_nonneg _
  have hn1 : (l.length : Int) ≤ 1000000 := by omega
  clear hcc hrows hn hvl
  go_enter Try.func82, Try.ntmps82
  go_wp2_with fail
  go_loopw [3, 4] (fun vo i wr => ∃ (k : Nat) (A : Option Addr) (c : Nat), i = .int .i64 (k : Int) ∧ k ≤ l.length ∧ vo = .slice A k c ∧ Hid (wr.ownsRow w.heap.size 24 1 vo k (vals.take k)) ∧ Hid (Below w.heap.size w wr)) (fun _ i _ => l.length - (intOf i).toNat)
  case atStart => exact ⟨0, none, 0, rfl, Nat.zero_le _, rfl, Lib.hid (World.ownsRow_nil _ _ _ _), Lib.hid (Below.refl _ _)⟩
  case round =>
    obtain ⟨k, A, c, rfl, hk, rfl, HO, HB⟩ := hrel
    have hk0 : (0 : Int) ≤ (k : Int) := Int.natCast_nonneg _
    by_cases hlt : k < l.length
    · have hkI : (k : Int) < (l.length : Int) := by omega
      obtain ⟨b, o, rfl, hcell⟩ := HCC.out (by omega)
      obtain ⟨Au, cu, hvu, -⟩ := HROW.out k hlt
      have hc0 := hcell k _ hvu
      have hck := (HB.out.cell (p := ⟨b, o + k, none⟩) (World.block_lt_of_cell? w _ hc0)).trans hc0
      obtain ⟨A', c', w', hr, ho, hg, -⟩ := run_push (t := 23) (ty := 23) Try.underlying23 info24p rfl (by omega) wr w.heap.size (.slice A k c) k _ HO.out (.slice Au (l.getD k []).length cu) rfl (by omega) HB.out.size
      have htk : vals.take (k + 1) = vals.take k ++ [.slice Au (l.getD k []).length cu] := by rw [List.take_add_one, hvu]; rfl
      rw [← htk] at ho
      have HRUN := Lib.hid hr
      have HO2 := Lib.hid ho
      have HB2 : Hid (Below w.heap.size w w') := Lib.hid (HB.out.grown hg HB.out.size fun r hr => (owns_block HO.out r hr).1)
      generalize (l.getD k []).length = lu at *
      clear hcell hc0 hvu htk hr ho hg
      go_wp2_with ((with_reducible refine wpList_sel 17 ?_); refine wpList_val rfl (r_app (.tmp 11) (.tmp 16) 23 rfl rfl rfl HRUN.out) ?_)
      go_roundw
      case rel => exact ⟨k + 1, A', c', by go_num, by omega, rfl, HO2, HB2⟩
      case measure => simp [intOf]; omega
    · obtain rfl : k = l.length := by omega
      go_wp2_with fail
      go_ret
      refine ⟨⟨A, c, rfl, ⟨vals, ?_, HVL.out, fun i hi => ?_⟩⟩, HB.out⟩
      · have h1 := sl_of_owns HO.out
        rwa [List.take_of_length_le (Nat.le_of_eq HVL.out)] at h1
      · obtain ⟨Au, cu, h1, h2⟩ := HROW.out i hi
        exact ⟨_, h1, h2.below HB.out⟩
theorem wordsE_len {g : Int} {rels : List W} {x : Int} (h : ∀ j, (rels.getD j []).length ≤ 100) (hn : rels.length ≤ 200) : (wordsE g rels x).1.length ≤ 1000000 := by
  unfold wordsE
  split
  · exact Nat.zero_le _
  · split
    · exact Nat.zero_le _
    · have := wordsTo2_len h x rels.length
      show (wordsTo2 rels x rels.length).length ≤ 1000000
      omega
set_option maxRecDepth 100000 in
set_option maxHeartbeats 4000000 in
theorem felschWords15_walk (w : World) (g : Int) (vr : Value) (x : Int) (rels : List W) (hR : Tab w vr rels) (hx : -9223372036854775808 ≤ x ∧ x ≤ 9223372036854775807) :
    Calls Try.prog 15 #[.agg #[.int .i64 g, vr], .int .i64 x] w fun e w' => e = .returned (.bool true) ∧ Below w.heap.size w w' := by
  obtain ⟨Ar, cr, rfl⟩ := Tab.form hR
  have HP : Hid (∀ W, W = w.alloc (.cells #[.int .i64 g, .slice Ar rels.length cr] 40) → Below w.heap.size w W ∧ W.heap[w.heap.size]? = some (.cells #[.int .i64 g, .slice Ar rels.length cr] 40 (0, 0)) ∧ W.heap.size = w.heap.size + 1) := Lib.hid fun W h => by
    subst h
    exact ⟨(Below.refl _ _).alloc (Nat.le_refl _) _, heap_alloc_new w _, by simp⟩
  have HRR := Lib.hid hR
  have HXX := Lib.hid hx
  clear hR hx
  go_enter Try.func15, Try.ntmps15
  go_wp2_with fail
  generalize hw0 : w.alloc (.cells #[.int .i64 g, .slice Ar rels.length cr] 40) = w0 at *
  obtain ⟨hb0, hbx, hsz⟩ := HP.out w0 rfl
  have HB0 := Lib.hid hb0
  have HLD : Hid (∀ W, Below w0.heap.size w0 W → (Instr.loadAt 40 (.pointer (some ⟨w.heap.size, 0, none⟩))).run Try.prog W = .ok (.agg #[.int .i64 g, .slice Ar rels.length cr]) W) := Lib.hid fun W h => load40 ((h.block _ (by omega)).trans hbx)
  have HTR : Hid (∀ W, Below w0.heap.size w0 W → Tab W (.slice Ar rels.length cr) rels) := Lib.hid fun W h => kept_tab.below HRR.out (hb0.trans (h.mono hb0.size))
  have HRF := Lib.hid (Below.refl w0.heap.size w0)
  clear hw0 hb0 hbx hsz HP HRR
  have HEND : Hid (∀ W, Below w0.heap.size w0 W → Below w.heap.size w W) := Lib.hid fun W h => HB0.out.trans (h.mono HB0.out.size)
  refine (long78_any w0 _ rels (HTR.out w0 HRF.out)).mono ?_
  rintro e w' ⟨⟨b, rfl, hb1⟩, rfl⟩
  cases b with
  | true =>
    go_wp2_with (go_at_call 79; (refine (awake79_any _).mono ?_); rintro e w3 ⟨rfl, hb⟩
                 have HB := Lib.hid hb
                 clear hb)
    go_ret
    exact ⟨rfl, HEND.out _ HB.out⟩
  | false =>
    have HR1 := Lib.hid (hb1 rfl)
    clear hb1
    have H80 : Hid (∀ W, Below w'.heap.size w' W → Calls Try.prog 80 #[.agg #[.int .i64 g, .slice Ar rels.length cr], .int .i64 x] W (WordsEPost g rels x W)) := Lib.hid fun W h => words80_any W _ rels g x (HTR.out W h) HXX.out.1 HXX.out.2 (fun j => by have := HR1.out.2 j; omega)
    have H81 : Hid (∀ W, Below w'.heap.size w' W → Calls Try.prog 81 #[.agg #[.int .i64 g, .slice Ar rels.length cr], .int .i64 x] W (WordsEPost g rels x W)) := Lib.hid fun W h => words81_any W _ rels g x (HTR.out W h) HXX.out.1 HXX.out.2 (fun j => by have := HR1.out.2 j; omega)
    have HLE : Hid ((wordsE g rels x).1.length ≤ 1000000) := Lib.hid (wordsE_len (fun j => by have := HR1.out.2 j; omega) (by have := HR1.out.1; omega))
    unfold WordsEPost at H80 H81
    generalize (wordsE g rels x).1 = T at *
    generalize (wordsE g rels x).2 = n3 at *
    clear HR1 HTR
    have H34 : Hid (∀ (W : World) (a b : Value), Tab W a T → Tab W b T → Calls Try.prog 42 #[a, b] W fun e w'' => e = .returned (.bool true) ∧ ∃ q, w'' = W.drewN q) := Lib.hid fun W a b h1 h2 => (same18_any W a b _ _ h1 h2).mono fun e w'' ⟨h, h'⟩ => ⟨h.trans (ret_bool (decide_eq_true rfl)), h'⟩
    have H82 : Hid (∀ W v, Tab W v T → Calls Try.prog 82 #[v] W fun e w' => (∃ A c, e = .returned (.slice A T.length c) ∧ Tab w' (.slice A T.length c) T) ∧ Below W.heap.size W w') := Lib.hid fun W v h => plain82_any W v T h HLE.out
    have hxx : (n3 == n3) = true := by simp
    go_wp2_with (first
      | ((with_reducible refine wpList_sel 14 ?_); refine wpList_val rfl (r_loadAt 40 (.tmp 2) _ _ rfl rfl (HLD.out _ HRF.out)) ?_)
      | (go_at_call 80; (refine (H80.out _ HRF.out).mono ?_); rintro e w3 ⟨⟨A1, k1, rfl, hx⟩, hb⟩
         have HB3 := Lib.hid hb
         have HX1 := Lib.hid hx.at_
         clear hb hx)
      | ((with_reducible refine wpList_sel 20 ?_); refine wpList_val rfl (r_loadAt 40 (.tmp 2) _ _ rfl rfl (HLD.out _ HB3.out)) ?_)
      | (go_at_call 81; (refine (H81.out _ HB3.out).mono ?_); rintro e w4 ⟨⟨A2, k2, rfl, hx⟩, hb⟩
         have HB4 := Lib.hid (HB3.out.trans (hb.mono HB3.out.size))
         have HX14 := Lib.hid (kept_tab.below HX1.out hb)
         have HX2 := Lib.hid hx.at_
         clear hb hx)
      | (go_at_call 82; (with_reducible refine (H82.out w4 (.slice A1 T.length k1) HX14.out).mono ?_); rintro e w5 ⟨⟨A5, k5, rfl, hx⟩, hb⟩
         have HB5 := Lib.hid (HB4.out.trans (hb.mono HB4.out.size))
         have HX5 := Lib.hid hx
         have HX25 := Lib.hid (kept_tab.below HX2.out hb)
         clear hb hx)
      | (go_at_call 82; (with_reducible refine (H82.out w5 (.slice A2 T.length k2) HX25.out).mono ?_); rintro e w6 ⟨⟨A6, k6, rfl, hx⟩, hb⟩
         have HB6 := Lib.hid (HB5.out.trans (hb.mono HB5.out.size))
         have HX6 := Lib.hid hx
         have HX56 := Lib.hid (kept_tab.below HX5.out hb)
         clear hb hx)
      | (go_at_call 42; (refine (H34.out _ _ _ HX56.out HX6.out).mono ?_); rintro e w7 ⟨rfl, q, rfl⟩
         have HC7 := Lib.hid (below_drewN HB6.out q))
      | (go_at_call 79; (refine (awake79_any _).mono ?_); rintro e w8 ⟨rfl, hb⟩
         have HB8 := Lib.hid (HC7.out.trans (hb.mono HC7.out.size))
         clear hb))
    go_ret
    exact ⟨rfl, HEND.out _ HB8.out⟩
end Go.Proofs
namespace Go.Proofs
open Go.RowKit Go.ChangeShapes Go.WideShapes Go.ChangeAt Go.Deep
section
variable {H : Type} {enc : TypeId × Value → H} {W : World}
theorem spot_none {a : Addr} {v : Value} (h : W.cell? (a.add 0) = some v) : a = ⟨a.block, a.off, none⟩ := by
  obtain ⟨b, o, s⟩ := a
  cases s with
  | none => rfl
  | some q =>
    exfalso
    have e : ({ block := b, off := o, spot := some q } : Addr).add 0 = { block := b, off := o, spot := some q } := by unfold Addr.add; rw [if_pos rfl]
    rw [e] at h
    unfold World.cell? at h
    simp only [Option.isSome_some, if_true] at h
    split at h <;> cases h
theorem wf_fits {x : Int} (h : (Lit.int .i64 x).wf = true) : -9223372036854775808 ≤ x ∧ x ≤ 9223372036854775807 := by
  simpa [Lit.wf, IntKind.min, IntKind.max, IntKind.signed, IntKind.bits] using h
theorem lat_of_trod {α : Type} {R : World → Value → α → Prop} {d : α} {t e : TypeId} {base fuel : Nat} {spare : Nat → Bool} {held : Bool} {v : Value} {x : DataW H × List MemPlace} (ht : Try.prog.underlying t = some (.slice e)) (hc : Try.prog.cellsOf e = 1)
    (hR : ∀ n u y, DataW.trod enc Try.prog W base spare held n e [u] = some y → ∃ z, R W u z) (h : DataW.trod enc Try.prog W base spare held fuel t [v] = some x) : ∃ xs, LAt R d W v xs := by
  rcases open_slice1 ht hc h with ⟨hv, -⟩ | ⟨a, len, cap, m, n, V, D, Pl, hv, -, hl, hm, hmm, -, hx⟩
  · obtain rfl : v = .slice none 0 0 := by simpa using hv
    exact ⟨[], [], ⟨none, 0, 0, rfl, rfl, Nat.le_refl _, by simp [maxLen], fun h => absurd h (by simp)⟩, rfl, fun i hi => absurd hi (by simp)⟩
  · obtain rfl : v = .slice (some a) len cap := by simpa using hv
    have hlm : len ≤ m := by rw [hmm]; split <;> omega
    have hz : ∀ i, i < len → ∃ z, R W (V i) z := fun i hi => hR n (V i) _ (hx i (by omega)).2
    have hf : ∃ f : Nat → α, ∀ i, i < len → R W (V i) (f i) := by
      have hz' : ∀ i, ∃ z, i < len → R W (V i) z := fun i => by
        by_cases hi : i < len
        · obtain ⟨z, hz⟩ := hz i hi; exact ⟨z, fun _ => hz⟩
        · exact ⟨d, fun h => absurd h hi⟩
      exact ⟨fun i => Classical.choose (hz' i), fun i => Classical.choose_spec (hz' i)⟩
    obtain ⟨f, hf⟩ := hf
    refine ⟨(List.range len).map f, (List.range len).map V, ⟨_, len, cap, rfl, by simp, hl, hm, fun h0 => ?_⟩, by simp, fun i hi => ?_⟩
    · have hsp := spot_none (hx 0 (by omega)).1
      refine ⟨a.block, a.off, by rw [← hsp], fun j u hu => ?_⟩
      have hj : j < len := by have := (List.getElem?_eq_some_iff.1 hu).1; simpa using this
      have := (hx j (by omega)).1
      rw [hsp, Addr.add_lit] at this
      rw [this, ← hu]
      simp [List.getElem?_range hj]
    · have hi' : i < len := by simpa using hi
      refine ⟨V i, by simp [List.getElem?_range hi'], ?_⟩
      have : ((List.range len).map f).getD i d = f i := by simp [List.getD_eq_getElem?_getD, List.getElem?_range hi']
      rw [this]
      exact hf i hi'
theorem intsT_of_trod {t : TypeId} (ht : Try.prog.underlying t = some (.slice 3)) {base fuel : Nat} {spare : Nat → Bool} {held : Bool} {v : Value} {x : DataW H × List MemPlace} (h : DataW.trod enc Try.prog W base spare held fuel t [v] = some x) : ∃ xs, IntsAt W v xs := by
  obtain ⟨xs, vs, hS, hl, he⟩ := lat_of_trod (R := fun _ u z => u = .int .i64 z ∧ (Lit.int .i64 z).wf = true) (d := 0) ht (by kernel_rfl) (fun n u y hy => by
    obtain ⟨m, hu, -, hw⟩ := DataW.trod_int Try.underlying3 hy
    exact ⟨m, by simpa using hu, hw⟩) h
  have hvs : vs = ints xs := by
    apply List.ext_getElem (by simpa [ints] using hl)
    intro i h1 h2
    obtain ⟨u, hu, rfl, -⟩ := he i (by omega)
    have hi : i < xs.length := by omega
    rw [List.getElem?_eq_getElem h1] at hu
    rw [Option.some.inj hu]
    simp [ints, List.getD_eq_getElem?_getD, hi]
  refine ⟨xs, hvs ▸ hS, fun z hz => ?_⟩
  obtain ⟨i, hi, rfl⟩ := List.getElem_of_mem hz
  obtain ⟨u, -, -, hw⟩ := he i hi
  have e : xs.getD i 0 = xs[i] := by simp [List.getD_eq_getElem?_getD, hi]
  rw [e] at hw
  exact wf_fits hw
theorem word_of_trod {base fuel : Nat} {spare : Nat → Bool} {held : Bool} {v : Value} {x : DataW H × List MemPlace} (h : DataW.trod enc Try.prog W base spare held fuel 25 [v] = some x) : ∃ xs, IntsAt W v xs := intsT_of_trod Try.underlying25 h
theorem words_of_trod {base fuel : Nat} {spare : Nat → Bool} {held : Bool} {v : Value} {x : DataW H × List MemPlace} (h : DataW.trod enc Try.prog W base spare held fuel 31 [v] = some x) : ∃ L, Tab W v L :=
  lat_of_trod Try.underlying31 (by kernel_rfl) (fun _ _ _ hy => word_of_trod hy) h
end
end Go.Proofs
namespace Go.Proofs
open Go.RowKit Go.ChangeShapes Go.WideShapes Go.ChangeAt Go.Deep
section
variable {H : Type} {enc : TypeId × Value → H} {W : World}
theorem cells40p : Try.prog.cellsOf 40 = 2 := by kernel_rfl
theorem cells3p : Try.prog.cellsOf 3 = 1 := by kernel_rfl
theorem cells31p : Try.prog.cellsOf 31 = 1 := by kernel_rfl
set_option maxRecDepth 100000 in
theorem pres_of_trod {base : Nat} {spare : Nat → Bool} {held : Bool} {v : Value} {d : DataW H} {ps : List MemPlace} (h : DataW.Trod enc Try.prog W base spare held 40 v d ps) : ∃ g a1 P, v = .agg #[.int .i64 g, a1] ∧ Tab W a1 P := by
  obtain ⟨fuel, hf⟩ := h
  obtain ⟨y0, y1, n, -, hlen, h0, h1⟩ := trod_struct2 Try.underlying40 hf
  rw [cells40p] at hlen
  obtain ⟨cs, rfl⟩ : ∃ cs, v = .agg cs := by
    cases v <;> simp [Value.cells] at hlen
    exact ⟨_, rfl⟩
  have hcs : cs.toList.length = 2 := hlen
  obtain ⟨l⟩ := cs
  match l, hcs with
  | [a0, a1], _ =>
    simp [Value.cells, cells3p, cells31p] at h0 h1
    obtain ⟨m, hu, -, hw⟩ := DataW.trod_int Try.underlying3 h0
    obtain ⟨L, hL⟩ := words_of_trod h1
    have e : a0 = .int .i64 m := by simpa using hu
    subst e
    exact ⟨m, a1, L, rfl, hL⟩
end
end Go.Proofs
namespace Go.Proofs.Ytmpnengjboabcaa
open Go.ChangeShapes Go.WideShapes Go.ChangeAt Go.RowKit
theorem fac_k25 : (Try.prog.mayEnter) = true := by kernel_rfl
end Go.Proofs.Ytmpnengjboabcaa
namespace Go.Proofs.Ytmpnengjboabcaa
open Go.ChangeShapes Go.WideShapes Go.ChangeAt Go.RowKit
theorem fac_k26 : ((Rows.topPresentRow.lifted == Try.prog.liftsFinal)) = true := by kernel_rfl
end Go.Proofs.Ytmpnengjboabcaa
namespace Go.Proofs.Ytmpnengjboabcaa
open Go.ChangeShapes Go.WideShapes Go.ChangeAt Go.RowKit
theorem fac_k27 : ((Try.prog.make == some Rows.topPresentRow.make)) = true := by kernel_rfl
end Go.Proofs.Ytmpnengjboabcaa
namespace Go.Proofs.Ytmpnengjboabcaa
open Go.ChangeShapes Go.WideShapes Go.ChangeAt Go.RowKit
theorem fac_k1 : (laidOutB Try.prog) = true := by kernel_rfl
theorem fac_k2 : (mapsRowed Try.prog) = true := by kernel_rfl
theorem fac_k24 : (Try.prog.stopsHeard) = true := by kernel_rfl
end Go.Proofs.Ytmpnengjboabcaa
namespace Go.Proofs.Ytmpnengjboabcaa
theorem and_mk {a b : Bool} (h : a = true) (k : b = true) : (a && b) = true := by rw [h, k]; rfl
theorem joined_mk {P : Program} {f : FuncId} {fn : Func} {s : ChangeSpec} {c : OpenClaim} (k0 : (c.wf (OpenSpec.ofChange s)) = true) (k1 : (laidOutB P) = true) (k2 : (mapsRowed P) = true) (k3 : (fn.params.all (P.readableRec ·)) = true) (k4 : (namedTie P c.named s.vars) = true) (k5 : ((c.stops == [])) = true) (k6 : ((P.stops == [])) = true) (k7 : ((c.knobs == [])) = true) (k8 : ((P.stopKnobs == [])) = true) (k9 : ((c.inPlace == P.inPlace f)) = true) (k10 : ((c.unfollowed == P.unfollowed f)) = true) (k11 : ((c.recurses == P.recurses f)) = true) (k12 : ((c.named == P.varsNamed f)) = true) (k13 : ((c.maps == (fn.params.toList ++ s.plain.varTypes P).any (P.mapsRec ·))) = true) (k14 : ((c.ifaces == (fn.params.toList ++ s.plain.varTypes P).any (P.ifacesRec ·))) = true) (k15 : ((c.mapsOut == P.mapsAmong fn.resultTypes.toList)) = true) (k16 : ((c.loops == (fn.params.toList ++ s.plain.varTypes P).any (P.loopsFrom ·))) = true) (k17 : ((c.wideKeys == (fn.params.toList ++ s.plain.varTypes P ++ fn.resultTypes.toList).any (P.wideKeysFrom ·))) = true) (k18 : (s.vars.all (P.varReadable ·)) = true) (k19 : (fn.resultTypes.all (fun t => P.readableRec t && decide (t < P.types.size))) = true) (k20 : ((c.ifacesOut == fn.resultTypes.toList.any (P.ifacesRec ·))) = true) (k21 : ((c.loopsOut == fn.resultTypes.toList.any (P.loopsFrom ·))) = true) (k22 : ((c.plainKeys == P.plainKeys)) = true) (k23 : (c.shortTexts.isNone) = true) (k24 : (P.stopsHeard) = true) (k25 : (P.mayEnter) = true) (k26 : ((c.lifted == P.liftsFinal)) = true) (k27 : ((P.make == some c.make)) = true) (k28 : ((c.domain.isEmpty && c.kinds == [])) = true) (k29 : ((c.pinned == c.pinnedBy)) = true) (k30 : ((c.veiled == (fn.params.toList ++ s.plain.varTypes P ++ fn.resultTypes.toList).any (P.veiledRec ·))) = true) (k31 : (c.veiledFits P fn.params.toList (fn.params.toList ++ s.plain.varTypes P ++ fn.resultTypes.toList)) = true) : joinedFacts P f fn s c = true := by
  have q28 := k28
  rw [Bool.and_eq_true, beq_iff_eq] at q28
  unfold joinedFacts
  refine (and_mk (and_mk (and_mk (and_mk (and_mk (and_mk (and_mk (and_mk (and_mk (and_mk (and_mk (and_mk (and_mk (and_mk (and_mk (and_mk (and_mk (and_mk (and_mk (and_mk (and_mk (and_mk (and_mk (and_mk (and_mk (and_mk (and_mk (and_mk (and_mk (and_mk (and_mk k0 k1) k2) k3) k4) k5) k6) k7) k8) k9) k10) k11) k12) k13) k14) k15) k16) k17) k18) k19) k20) k21) k22) k23) k24) k25) k26) k27) ?_) k29) k30) k31)
  rw [if_pos q28.1, q28.2]
  rfl
end Go.Proofs.Ytmpnengjboabcaa
