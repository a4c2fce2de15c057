/- The reference of Felsch's strategy: the list of the letters' words grows; The reference's Result, for a state whose rows and parents alone are known. -/
import Derived.Test.YtmpnengjboabcaaFrCS20
import Derived.Test.YtmpnengjboabcaaFrCS22
import Derived.Test.YtmpnengjboabcaaFrCS25
import Derived.Test.YtmpnengjboabcaaFrCS9
namespace Go.Proofs
open Go.RowKit Go.Shelf Go.Proofs.Ct Go.Maps
theorem under167e : Try.prog.underlying 167 = some (.slice 31) := by kernel_rfl
theorem info31p : ∃ i, Try.prog.info? 31 = some i ∧ i.zero = some (.slice none 0 0) ∧ i.size = 1 ∧ i.bytes = 24 := by
  have h : (Try.prog.info? 31).map (fun i => (i.zero, i.size, i.bytes)) = some (some (.slice none 0 0), 1, 24) := by kernel_rfl
  cases hq : Try.prog.info? 31 with
  | none => simp [hq] at h
  | some i => simp [hq] at h; exact ⟨i, rfl, h⟩
/-- append of one element, wherever its block lies -/
theorem push_at {t ty e : TypeId} {z : Value} {bytes : Nat} (ht : Try.prog.underlying t = some (.slice e)) (hi : ∃ i, Try.prog.info? e = some i ∧ i.zero = some z ∧ i.size = 1 ∧ i.bytes = bytes) (hz : z.cells.size = 1) (hby : bytes ≤ 1000)
    (w : World) (base : Nat) (v : Value) (n : Nat) (xs : List Value) (hown : w.ownsRow base e 1 v n xs) (x : Value) (h1 : x.oneCell' = true) (hn : n ≤ 10000000) (hb : base ≤ w.heap.size) (h : Nat) (hx : w.heap[h]? = some (.cells #[x] e (0, 0))) :
    ∃ A' c' w', (Builtin.append_ #[t, t] ty #[v, .slice (some ⟨h, 0, none⟩) 1 1]).run Try.prog w = .ok (.slice A' (n + 1) c') w' ∧ w'.ownsRow base e 1 (.slice A' (n + 1) c') (n + 1) (xs ++ [x]) ∧
      w.grownBy w' v.ownBlock ∧ ((Value.slice A' (n + 1) c').ownBlock = v.ownBlock ∨ ∃ r, (Value.slice A' (n + 1) c').ownBlock = some r ∧ w.heap.size ≤ r) := by
  obtain ⟨i, hi, hz', hs, hb'⟩ := hi
  obtain ⟨v', w', hr, hown', hg, -, hw⟩ := run_append_own_at (P := Try.prog) w base t ty e i z 1 bytes ht hi hz' hs hb' hz (by omega) v n xs hown ⟨h, 0, none⟩ 1 1 [x] rfl (fun j u hj => by
      rw [Addr.add_lit, cell_of_row _ _ _ _ _ _ hx, Nat.zero_add]
      simpa using hj) (fun u hu => by simp at hu; rw [hu]; exact h1) (by unfold maxLen; omega)
    (by have : (n + 1) * bytes ≤ 10000001 * 1000 := Nat.mul_le_mul (by omega) hby
        omega) hb
  obtain ⟨A', c', rfl⟩ := owns_form hown'
  refine ⟨A', c', w', hr, hown', hg, ?_⟩
  rcases hw with hw | hw
  · exact .inl hw
  · exact .inr ⟨_, hw, by simp⟩
/-- the list of the first c letters' words -/
def LstQ (b c : Nat) (ws : Nat → List W) (fm : Nat → Value) (v : Value) (W : World) : Prop := ∃ F : Nat → Prop, W.ownsRow (b + 1) 31 1 v c ((List.range c).map fm) ∧ (∀ k, F k → b + 1 ≤ k ∧ k < W.heap.size ∧ v.ownBlock ≠ some k) ∧ ∀ j, j < c → RdT F W (fm j) (ws j)
section
variable {b c : Nat} {ws : Nat → List W} {fm : Nat → Value} {v : Value} {W W' : World}
theorem LstQ.keep (h : LstQ b c ws fm v W) (hs : W.heap.size ≤ W'.heap.size) (hk : ∀ k, b + 1 ≤ k → k < W.heap.size → W'.heap[k]? = W.heap[k]?) : LstQ b c ws fm v W' := by
  obtain ⟨F, h1, h2, h3⟩ := h
  exact ⟨F, owns_keep h1 fun r hr => hk r (owns_block h1 r hr).1 (owns_lt h1 hr), fun k hF => ⟨(h2 k hF).1, Nat.lt_of_lt_of_le (h2 k hF).2.1 hs, (h2 k hF).2.2⟩, fun j hj => (h3 j hj).keep fun k hF => hk k (h2 k hF).1 (h2 k hF).2.1⟩
theorem LstQ.push (h : LstQ b c ws fm v W) (hc : c ≤ 1000) (hb : b + 1 ≤ W.heap.size) {x : Value} (h1 : x.oneCell' = true) {q : Nat} (hx : W.heap[q]? = some (.cells #[x] 31 (0, 0))) {G : Nat → Prop} (hG : ∀ k, G k → b + 1 ≤ k ∧ k < W.heap.size ∧ v.ownBlock ≠ some k) (hr : RdT G W x (ws c)) (ty : TypeId) :
    ∃ A' k' w', (Builtin.append_ #[167, 167] ty #[v, .slice (some ⟨q, 0, none⟩) 1 1]).run Try.prog W = .ok (.slice A' (c + 1) k') w' ∧ LstQ b (c + 1) ws (fun j => if j = c then x else fm j) (.slice A' (c + 1) k') w' ∧ W.grownBy w' v.ownBlock := by
  obtain ⟨F, o1, o2, o3⟩ := h
  obtain ⟨A', k', w', hrun, ho, hg, hw⟩ := push_at (ty := ty) under167e info31p rfl (by omega) W (b + 1) v c _ o1 x h1 (by omega) hb q hx
  have hag : ∀ {G' : Nat → Prop}, (∀ k, G' k → b + 1 ≤ k ∧ k < W.heap.size ∧ v.ownBlock ≠ some k) → Ag G' W w' := fun h => Ag.grown hg fun k hk => ⟨(h k hk).2.1, (h k hk).2.2⟩
  have hnb : ∀ {k : Nat}, k < W.heap.size → v.ownBlock ≠ some k → (Value.slice A' (c + 1) k').ownBlock ≠ some k := fun {k} h1 h2 e => by
    rcases hw with hw | ⟨r, hw, hge⟩
    · exact h2 (hw ▸ e)
    · rw [hw] at e
      exact absurd (Option.some.inj e ▸ hge) (Nat.not_le.2 h1)
  refine ⟨A', k', w', hrun, ⟨fun k => F k ∨ G k, ?_, fun k hk => ?_, fun j hj => ?_⟩, hg⟩
  · have e : (List.range (c + 1)).map (fun j => if j = c then x else fm j) = (List.range c).map fm ++ [x] := by
      have e1 : (List.range c).map (fun j => if j = c then x else fm j) = (List.range c).map fm := List.map_congr_left fun j hj => if_neg (Nat.ne_of_lt (List.mem_range.1 hj))
      rw [List.range_succ, List.map_append, e1, List.map_cons, List.map_nil, if_pos rfl]
    rw [e]; exact ho
  · rcases hk with hk | hk
    · obtain ⟨a1, a2, a3⟩ := o2 k hk
      exact ⟨a1, Nat.lt_of_lt_of_le a2 hg.size, hnb a2 a3⟩
    · obtain ⟨a1, a2, a3⟩ := hG k hk
      exact ⟨a1, Nat.lt_of_lt_of_le a2 hg.size, hnb a2 a3⟩
  · by_cases e : j = c
    · subst e
      simp only [if_true]
      exact (hr.keep (hag hG)).mono fun k hk => .inr hk
    · simp only [if_neg e]
      exact ((o3 j (by omega)).keep (hag o2)).mono fun k hk => .inl hk
end
/-- the box while the list grows -/
def WrdQ (b lim c : Nat) (ws : Nat → List W) (fm : Nat → Value) (w3 W : World) : Prop := Below b w3 W ∧ b + 1 ≤ W.heap.size ∧ ∃ A k, W.heap[b]? = some (.cells #[.slice none 0 0, .slice none 0 0, .slice none 0 0, .slice none 0 0, .slice A c k, .int .i64 (lim : Int), .int .i64 0, .int .i64 0] 169 (0, 0)) ∧ LstQ b c ws fm (.slice A c k) W
/-- what the operations bring that lay a letter's words into the list -/
def WqF (b c lo : Nat) (lv pv : Value) (ws : Nat → List W) (fm : Nat → Value) : Nat → Value → World → Prop
  | 8, v, w => ∃ A n k F, v = .slice A n k ∧ (∀ q, F q → lo ≤ q ∧ q < w.heap.size) ∧ RdT F w v (ws c)
  | 9, v, w => ∃ h x F, v = .slice (some ⟨h, 0, none⟩) 1 1 ∧ lo ≤ h ∧ w.heap[h]? = some (.cells #[x] 31 (0, 0)) ∧ x.oneCell' = true ∧ (∀ q, F q → lo ≤ q ∧ q < w.heap.size) ∧ RdT F w x (ws c)
  | 10, v, w => ∃ A k x, v = .slice A (c + 1) k ∧ LstQ b (c + 1) ws (fun j => if j = c then x else fm j) v w
  | i, v, _ => v = ([.pointer (some ⟨b, 0, none⟩), .pointer (some ⟨b, 0, none⟩), .pointer (some ⟨b, 0, none⟩), .pointer (some ⟨b, 4, none⟩), lv, pv, .int .i64 (c : Int), .int .i64 (letter c), undef, undef, undef, .pointer (some ⟨b, 0, none⟩), .pointer (some ⟨b, 4, none⟩), undef] : List Value).getD i undef
def WqG (b lo : Nat) (i : Nat) (w w' : World) : Prop := w.heap.size ≤ w'.heap.size ∧ (i ≠ 10 → ∀ k, b + 1 ≤ k → k < w.heap.size → w'.heap[k]? = w.heap[k]?) ∧ ∀ k, lo ≤ k → k < w.heap.size → w'.heap[k]? = w.heap[k]?
theorem WqG.same {b lo i : Nat} {w : World} : WqG b lo i w w := ⟨Nat.le_refl _, fun _ _ _ _ => rfl, fun _ _ _ => rfl⟩
theorem WqG.of_below {b lo i : Nat} {w w' : World} (h : Below w.heap.size w w') : WqG b lo i w w' := ⟨h.size, fun _ k _ h2 => h.block k h2, fun k _ h2 => h.block k h2⟩
theorem WqF.keep {b c lo : Nat} {lv pv : Value} {ws : Nat → List W} {fm : Nat → Value} : ∀ (i j : Nat) (v : Value) (w w' : World), i < 14 → j < 14 → i ≠ j → WqG b lo i w w' → WqF b c lo lv pv ws fm j v w → WqF b c lo lv pv ws fm j v w' := by
  intro i j v w w' _ hj hne hS h
  have hcases : j = 8 ∨ j = 9 ∨ j = 10 ∨ (j ≠ 8 ∧ j ≠ 9 ∧ j ≠ 10) := by omega
  rcases hcases with rfl | rfl | rfl | ⟨h1, h2, h3⟩
  · obtain ⟨A, n, k, F, e, hF, hr⟩ := h
    exact ⟨A, n, k, F, e, fun q hq => ⟨(hF q hq).1, Nat.lt_of_lt_of_le (hF q hq).2 hS.1⟩, hr.keep fun q hq => hS.2.2 q (hF q hq).1 (hF q hq).2⟩
  · obtain ⟨q, x, F, e, hl, hx, ho, hF, hr⟩ := h
    exact ⟨q, x, F, e, hl, (hS.2.2 q hl (Array.getElem?_eq_some_iff.1 hx).1).trans hx, ho, fun q hq => ⟨(hF q hq).1, Nat.lt_of_lt_of_le (hF q hq).2 hS.1⟩, hr.keep fun q hq => hS.2.2 q (hF q hq).1 (hF q hq).2⟩
  · obtain ⟨A, k, x, e, hL⟩ := h
    exact ⟨A, k, x, e, hL.keep hS.1 (hS.2.1 hne)⟩
  · unfold WqF at h ⊢
    split at h <;> first | contradiction | exact h
end Go.Proofs
namespace Go.Proofs
open Go.RowKit Go.Shelf Go.Proofs.Ct Go.Maps
set_option maxRecDepth 100000 in
set_option maxHeartbeats 4000000 in
theorem result114_of (g m b lim : Nat) (_hm : m = 2 * g) (hg : g ≤ 16) (hg1 : 1 ≤ g) (w : World) (s : St) (gr cr : Nat) (bl cs : Nat → Nat) (hrows : w.cell? ⟨b, 0, none⟩ = some (.slice (some ⟨gr, 0, none⟩) s.t.length cr)) (hv1 : ∀ r, r < s.t.length → w.cell? ⟨gr, r, none⟩ = some (.slice (some ⟨bl r, 0, none⟩) (2 * g) (cs r)))
    (hv2 : ∀ r c, r < s.t.length → c < 2 * g → w.cell? ⟨bl r, c, none⟩ = some (.int .i64 (s.t.at r c))) (hlv : ∀ W, Below w.heap.size w W → ∀ r, r < s.t.length → ∃ (y gp cp : Nat), W.cell? ⟨b, 1, none⟩ = some (.slice (some ⟨gp, 0, none⟩) s.t.length cp) ∧ W.cell? ⟨gp, r, none⟩ = some (.int .i64 (y : Int)) ∧ (y = r ↔ s.rp r = r)) (hG : Ct.Good g lim s) (hC : Comp g s s.t.length) (hlim : lim ≤ 20000) :
    Calls Try.prog 114 #[.pointer (some ⟨b, 0, none⟩), .int .i64 (g : Int)] w fun e w' => ∃ u, e = .returned u ∧ TabB w.heap.size w' u (stdE g (tabS s) 0).1 ∧ Below w.heap.size w w' := by
  have hn : s.t.length ≤ 20000 := Nat.le_trans hG.n2 hlim
  have hn1 := hG.n1
  have hn0 : (s.t.length : Int) ≤ 20000 := by omega
  have hn2 : (0 : Int) ≤ (s.t.length : Int) := Int.natCast_nonneg _
  have HRO := Lib.hid hrows
  have HV1 : Hid (∀ W, Below w.heap.size w W → ∀ r, r < s.t.length → W.cell? ⟨gr, r, none⟩ = some (.slice (some ⟨bl r, 0, none⟩) (2 * g) (cs r))) := Lib.hid fun W h r hr => (h.cell (p := ⟨gr, r, none⟩) (World.block_lt_of_cell? w _ (hv1 r hr))).trans (hv1 r hr)
  have HV2 : Hid (∀ W, Below w.heap.size w W → ∀ r c, r < s.t.length → c < 2 * g → W.cell? ⟨bl r, c, none⟩ = some (.int .i64 (s.t.at r c))) := Lib.hid fun W h r c hr hc => (h.cell (p := ⟨bl r, c, none⟩) (World.block_lt_of_cell? w _ (hv2 r c hr hc))).trans (hv2 r c hr hc)
  have HVO : Hid (∀ W, Below w.heap.size w W → W.cell? ⟨b, 0, none⟩ = some (.slice (some ⟨gr, 0, none⟩) s.t.length cr)) := Lib.hid fun W h => (h.cell (p := ⟨b, 0, none⟩) (World.block_lt_of_cell? w _ hrows)).trans hrows
  have HLV := Lib.hid hlv
  have HG := Lib.hid hG
  have HC := Lib.hid hC
  have HTS := Lib.hid (tab_std hg1 hg hlim hG hC)
  have HR1 : Hid ((Instr.makeSlice 24 (.int .i64 (s.t.length : Int)) (.int .i64 (s.t.length : Int))).run Try.prog w = .ok (.slice (some ⟨w.heap.size, 0, none⟩) s.t.length s.t.length) (w.alloc (.cells (Array.replicate s.t.length (.int .i64 0)) 3))) := Lib.hid (make24r w _ (by omega))
  have HX1 := Lib.hid (xs_made w s)
  have HB1 : Hid (Below w.heap.size w (w.alloc (.cells (Array.replicate s.t.length (.int .i64 0)) 3))) := Lib.hid ((Below.refl _ _).alloc (Nat.le_refl _) _)
  generalize w.alloc (.cells (Array.replicate s.t.length (.int .i64 0)) 3) = W1 at *
  clear hlv hG hC hv1 hv2
  go_enter Try.func114, Try.ntmps114
  go_wp2_with ((with_reducible refine wpList_sel 17 ?_); refine wpList_val rfl (r_make 24 (.tmp 16) (.tmp 16) rfl rfl rfl HR1.out) ?_)
  clear hrows
  go_loopg [7, 8] s.t.length (fun n v i wr => ∃ k : Nat, i = .int .i64 (k : Int) ∧ n = s.t.length - k ∧ k ≤ s.t.length ∧ v = .int .i64 ((num s k : Nat) : Int) ∧ Hid (XsAt wr w.heap.size (nmL s k)) ∧ Hid (Below w.heap.size w wr))
  case atStart => exact ⟨0, rfl, by omega, Nat.zero_le _, rfl, HX1, HB1⟩
  case round =>
    clear HX1 HB1
    obtain ⟨k, rfl, hgk, hk, rfl, HX, HB⟩ := hrel
    have HGK := Lib.hid hgk
    clear hgk
    have hk0 : (0 : Int) ≤ (k : Int) := Int.natCast_nonneg _
    have hnk : num s k ≤ k := livTo_le s k
    have hnk0 : (0 : Int) ≤ ((num s k : Nat) : Int) := Int.natCast_nonneg _
    have hnk1 : ((num s k : Nat) : Int) ≤ 20000 := by omega
    have hrowsk := HVO.out _ HB.out
    by_cases hlt : k < s.t.length
    · have hltI : (k : Int) < (s.t.length : Int) := by omega
      obtain ⟨y, gp, cp, p1, p2, hyi⟩ := HLV.out _ HB.out _ hlt
      have HYI := Lib.hid hyi
      clear hyi
      by_cases hal : s.rp k = k
      · obtain rfl : y = k := HYI.out.2 hal
        have d1 : ((y : Int) == (y : Int)) = true := by simp
        have HNL : Hid (nmL s (y + 1) = (nmL s y).set y (num s y)) := Lib.hid (nmL_live hlt hal)
        have HNK : Hid (num s (y + 1) = num s y + 1) := Lib.hid (by
          unfold num
          rw [livTo_succ, if_pos hal]
          simp)
        have hcx := HX.out.cell (k := y) (by rw [length_nmL]; exact hlt)
        have hfx := HX.out.frozen y
        have HX2 := Lib.hid (HX.out.set (k := y) (by rw [length_nmL]; exact hlt) (num s y))
        clear hal
        go_wp2_with fail
        go_roundg (s.t.length - (y + 1))
        case measure => have := HGK.out; omega
        case rel => exact ⟨y + 1, by go_num, rfl, by omega, by rw [HNK.out]; go_num, Lib.hid (by rw [HNL.out]; exact HX2.out), Lib.hid (HB.out.grown (grown_setCell _ _ _ _) HB.out.size (fun k hk => by cases hk; exact Nat.le_refl _))⟩
      · have hyk : ¬ y = k := fun h => hal (HYI.out.1 h)
        have d1 : ((y : Int) == (k : Int)) = false := by rw [beq_eq_false_iff_ne]; omega
        have HNL : Hid (nmL s (k + 1) = nmL s k) := Lib.hid (nmL_dead hal)
        have HNK : Hid (num s (k + 1) = num s k) := Lib.hid (by
          unfold num
          rw [livTo_succ, if_neg hal])
        clear hal hyk
        go_wp2_with fail
        go_roundg (s.t.length - (k + 1))
        case measure => have := HGK.out; omega
        case rel => exact ⟨k + 1, by go_num, rfl, by omega, by rw [HNK.out], Lib.hid (by rw [HNL.out]; exact HX.out), HB⟩
    · obtain rfl : k = s.t.length := by omega
      rename World => W2
      clear hlt
      have HST : Hid (OutSt 24 (fun _ => False) W2 W2 (.slice none 0 0) (tabTo s 0)) := Lib.hid (OutSt.nil 24 (Below.refl _ _))
      have HXN := HX
      have HBN := HB
      go_wp2_with fail
      go_loopg [6, 9] s.t.length (fun n v i wr => ∃ k : Nat, i = .int .i64 (k : Int) ∧ n = s.t.length - k ∧ k ≤ s.t.length ∧ ∃ (F : Nat → Prop) (A : Option Addr) (c : Nat), v = .slice A (tabTo s k).length c ∧ Hid (OutSt 24 F W2 wr (.slice A (tabTo s k).length c) (tabTo s k)))
      case atStart => exact ⟨0, rfl, by omega, Nat.zero_le _, _, none, 0, rfl, HST⟩
      case round =>
        clear HST HX HB HGK hnk hnk0 hnk1 hk0 hk hrowsk
        obtain ⟨k, rfl, hgk, hk, F, A, cA, rfl, HO⟩ := hrel
        have HGK := Lib.hid hgk
        clear hgk
        have hk0 : (0 : Int) ≤ (k : Int) := Int.natCast_nonneg _
        have HBK := Lib.hid (HBN.out.trans (HO.out.below.mono HBN.out.size))
        have a1 := HVO.out _ HBK.out
        by_cases hlt : k < s.t.length
        · have hltI : (k : Int) < (s.t.length : Int) := by omega
          obtain ⟨y, gp, cp, p1, p2, hyi⟩ := HLV.out _ HBK.out _ hlt
          have HYI := Lib.hid hyi
          clear hyi
          by_cases hal : s.rp k = k
          · obtain rfl : y = k := HYI.out.2 hal
            have d1 : ((y : Int) != (y : Int)) = false := by simp
            have HTL : Hid (tabTo s (y + 1) = tabTo s y ++ [(s.t.row y).map fun v => (num s v.toNat : Int)]) := Lib.hid (tabTo_live hal)
            have HRW : Hid (∀ c, c < 2 * g → ∃ z : Nat, s.t.at y c = (z : Int) ∧ z < s.t.length ∧ s.rp z = z) := Lib.hid fun c hc => by
              have h0 := HC.out y hlt hlt c hc
              rw [hal] at h0
              obtain ⟨z, hz⟩ := Int.eq_ofNat_of_zero_le h0
              obtain ⟨-, h2, h3⟩ := HG.out.rest.live hlt hc (show Ct.Edge s.t y c z from hz)
              exact ⟨z, hz, h3, h2⟩
            have HRL := Lib.hid (HG.out.rest.inv.len y hlt)
            have HRB : Hid (∀ v ∈ s.t.row y, v.toNat ≤ s.t.length) := Lib.hid fun v hv => by
              obtain ⟨c, hc, rfl⟩ := List.mem_iff_getElem.1 hv
              obtain ⟨z, hz, hz1, -⟩ := HRW.out c (by rw [← HG.out.rest.inv.len y hlt]; exact hc)
              unfold Tb.at at hz
              rw [List.getD_eq_getElem?_getD, List.getElem?_eq_getElem hc] at hz
              simp at hz
              omega
            have HTK := Lib.hid (length_tabTo s y)
            have HLK := Lib.hid (livTo_le s y)
            have HRN := Lib.hid HO.out.row_nil
            have HYL := Lib.hid hlt
            clear hal
            go_wp2_with fail
            go_loopg [10, 11] (2 * g) (fun n v i wx => ∃ (c : Nat) (A6 : Option Addr) (c6 : Nat), i = .int .i64 (c : Int) ∧ n = 2 * g - c ∧ c ≤ 2 * g ∧ v = .slice A6 c c6 ∧ Hid (OutSt2 24 F W2 wx (.slice A (tabTo s y).length cA) (.slice A6 c c6) (tabTo s y) (((s.t.row y).take c).map (fun v => (num s v.toNat : Int)))))
            case atStart => exact ⟨0, none, 0, rfl, by omega, Nat.zero_le _, rfl, HRN⟩
            case round =>
              clear HRN
              obtain ⟨c, A6, c6, rfl, hgc, hc, rfl, HO4⟩ := hrel
              have HGC := Lib.hid hgc
              clear hgc
              have hc0 : (0 : Int) ≤ (c : Int) := Int.natCast_nonneg _
              have HBX := Lib.hid (HBN.out.trans (HO4.out.st.below.mono HBN.out.size))
              have b1 := HVO.out _ HBX.out
              have b2 := HV1.out _ HBX.out y HYL.out
              by_cases hcg : c < 2 * g
              · have hcI : (c : Int) < 2 * (g : Int) := by omega
                obtain ⟨z, hz, hz1, hz2⟩ := HRW.out c hcg
                have b3 := HV2.out _ HBX.out y c HYL.out hcg
                rw [hz] at b3
                have hx2 := (HXN.out.below HO4.out.st.below).cell (k := z) (by rw [length_nmL]; exact hz1)
                rw [nmL_getD s _ hz1, if_pos ⟨hz1, hz2⟩] at hx2
                have hxl : (((s.t.row y).take c).map (fun v => (num s v.toNat : Int))).length = c := by rw [List.length_map, List.length_take, HRL.out]; omega
                obtain ⟨A8, c8, w8, hr8, hS8⟩ := HO4.out.add (by decide) 24 Try.underlying24 (num s z : Int) (by rw [hxl]; omega)
                have hsn := map_take_succ (f := fun v => (num s v.toNat : Int)) (show c < (s.t.row y).length by rw [HRL.out]; exact hcg)
                have hzz : (s.t.row y).getD c 0 = (z : Int) := hz
                rw [hzz] at hsn
                simp only [Int.toNat_natCast] at hsn
                rw [← hsn, hxl] at hS8
                rw [hxl] at hr8
                have HR8 := Lib.hid hr8
                have HS8 := Lib.hid hS8
                have hz0 : (0 : Int) ≤ (z : Int) := Int.natCast_nonneg _
                have hzI : (z : Int) < (s.t.length : Int) := by omega
                clear hr8 hS8 hsn hzz hz hxl
                generalize bl y = by' at *
                generalize cs y = cy at *
                go_wp2_with ((with_reducible refine wpList_sel 87 ?_); refine wpList_val rfl (r_app (.tmp 72) (.tmp 86) 24 rfl rfl rfl HR8.out) ?_)
                go_roundg (2 * g - (c + 1))
                case measure => have := HGC.out; omega
                case rel => exact ⟨c + 1, A8, c8, by go_num, rfl, by omega, rfl, HS8⟩
              · obtain rfl : c = 2 * g := by omega
                have hS := HO4.out
                rw [List.take_of_length_le (by rw [HRL.out]; exact Nat.le_refl _)] at hS
                obtain ⟨A8, c8, w8, hr8, hS8⟩ := hS.done (by decide) Try.underlying23 info24p (fits_tab HG.out (by omega) _ HRB.out) (by have := HTK.out; have := HLK.out; omega)
                rw [← HTL.out] at hS8
                have hlen : (tabTo s (y + 1)).length = (tabTo s y).length + 1 := by rw [HTL.out]; simp
                rw [← hlen] at hr8 hS8
                have HR8 := Lib.hid hr8
                have HS8 := Lib.hid hS8
                clear hr8 hS8 hS hlen
                generalize bl y = by' at *
                generalize cs y = cy at *
                go_wp2_with ((with_reducible refine wpList_sel 91 ?_); refine wpList_val rfl (r_app (.tmp 88) (.tmp 90) 23 rfl rfl rfl HR8.out) ?_)
                go_roundg (s.t.length - (y + 1))
                case measure => have := HGK.out; omega
                case rel => exact ⟨y + 1, by go_num, rfl, by omega, _, A8, c8, rfl, HS8⟩
          · have hyk : ¬ y = k := fun h => hal (HYI.out.1 h)
            have d1 : ((y : Int) != (k : Int)) = true := by simp; omega
            have HTL : Hid (tabTo s (k + 1) = tabTo s k) := Lib.hid (tabTo_dead hal)
            clear hal hyk
            go_wp2_with fail
            go_roundg (s.t.length - (k + 1))
            case measure => have := HGK.out; omega
            case rel =>
              have h1 := HO.out
              have h2 := HTL.out
              rw [← h2] at h1 ⊢
              exact ⟨k + 1, by go_num, rfl, by omega, F, A, cA, rfl, Lib.hid h1⟩
        · obtain rfl : k = s.t.length := by omega
          clear hlt
          have HT : Hid (Tab _ (.slice A (tabTo s s.t.length).length cA) (tabS s)) := Lib.hid HO.out.out.tab
          have H49 : Hid (Calls Try.prog 57 #[.int .i64 (g : Int), .slice A (tabTo s s.t.length).length cA, .int .i64 0] _ (StdPostB g (tabS s) 0 _)) := Lib.hid (std49_goodB _ _ g (tabS s) 0 HT.out HTS.out.1 (by have := HTS.out.1.n1; omega))
          go_wp2_with (first
            | (go_at_call 57; (refine H49.out.mono ?_); rintro E w5 ⟨⟨u5, rfl, ht5⟩, hb5⟩
               have HT5 := Lib.hid (ht5.mono HBK.out.size)
               have HB5 := Lib.hid (HBK.out.trans (hb5.mono HBK.out.size))
               clear ht5 hb5))
          go_ret
          exact ⟨_, rfl, HT5.out, HB5.out⟩
end Go.Proofs
