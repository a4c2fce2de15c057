/- The reference's pres.Clean. -/
import Derived.Test.YtmmbmhjdnlmedaaGreatLoCS10
import Derived.Test.YtmmbmhjdnlmedaaGreatLoCS11
import Derived.Test.YtmmbmhjdnlmedaaGreatLoCS20
import Derived.Test.YtmmbmhjdnlmedaaGreatLoCS7
namespace Go.Proofs
open Go.RowKit Go.Shelf Go.Lib Go.Sort Go.Proofs.Ct Go.Proofs.Tz
theorem sl_cut2 {w : World} {A : Option Addr} {n c k h : Nat} {vs : List Value} (hI : Sl w (.slice A n c) vs) (hk : k ≤ h) (hh : h ≤ n) : ∃ A', sliced A k h c 1 = .slice A' (h - k) (c - k) ∧ Sl w (.slice A' (h - k) (c - k)) ((vs.take h).drop k) ∧ h ≤ c := by
  obtain ⟨A0, n0, cap, e, h1, h2, h3, h4⟩ := hI
  obtain ⟨rfl, rfl, rfl⟩ := Value.slice.inj e
  refine ⟨_, rfl, ⟨_, _, _, rfl, by rw [List.length_drop, List.length_take]; omega, by omega, by omega, fun hp => ?_⟩, by omega⟩
  obtain ⟨b, off, rfl, hr⟩ := h4 (by omega)
  refine ⟨b, off + k, ?_, fun j v hj => ?_⟩
  · rw [if_neg (by omega), Nat.mul_one]
    exact congrArg some (Addr.add_mid b off k)
  · have hj' : vs[k + j]? = some v := by
      simp only [List.getElem?_drop, List.getElem?_take] at hj
      split at hj
      · exact hj
      · simp at hj
    have := hr (k + j) v hj'
    rwa [show off + k + j = off + (k + j) by omega]
/-- a word's place in an ascending list -/
theorem ins_at {x : W} : ∀ {l : List W} {k : Nat}, k ≤ l.length → (∀ j, j < k → cmpW (l.getD j []) x < 0) → (k < l.length → ¬ cmpW (l.getD k []) x < 0 ∧ l.getD k [] ≠ x) → ins x l = l.take k ++ [x] ++ l.drop k
  | [], 0, _, _, _ => rfl
  | [], k + 1, h, _, _ => absurd h (by simp)
  | y :: l, 0, _, _, h => by
    obtain ⟨h1, h2⟩ := h (by simp)
    have h1' : ¬ cmpW y x < 0 := h1
    have h2' : ¬ y = x := h2
    simp [ins, h1', h2']
  | y :: l, k + 1, hk, h, h2 => by
    have h0 : cmpW y x < 0 := h 0 (by omega)
    have ih := ins_at (x := x) (l := l) (k := k) (by simpa using hk) (fun j hj => h (j + 1) (by omega)) (fun hk' => h2 (by simpa using hk'))
    rw [ins, if_pos h0, ih]
    rfl
theorem ins_there {x : W} : ∀ {l : List W} {k : Nat}, k < l.length → (∀ j, j < k → cmpW (l.getD j []) x < 0) → l.getD k [] = x → ins x l = l
  | [], k, h, _, _ => absurd h (by simp)
  | y :: l, 0, _, _, h => by
    have h' : y = x := h
    subst h'
    rw [ins, if_neg (by rw [cmpW_zero.2 rfl]; omega), if_pos rfl]
  | y :: l, k + 1, hk, h, h2 => by
    have h0 : cmpW y x < 0 := h 0 (by omega)
    rw [ins, if_pos h0, ins_there (x := x) (l := l) (k := k) (by simpa using hk) (fun j hj => h (j + 1) (by omega)) h2]
/-- the place -/
theorem ins_place (x : W) (l : List W) : ∃ k, k ≤ l.length ∧ (∀ j, j < k → cmpW (l.getD j []) x < 0) ∧ (k < l.length → ¬ cmpW (l.getD k []) x < 0) := by
  rcases least_or (fun k => ¬ cmpW (l.getD k []) x < 0) l.length with h | ⟨k, h1, h2, h3⟩
  · exact ⟨l.length, Nat.le_refl _, fun j hj => Classical.byContradiction fun e => h j hj e, fun h => absurd h (Nat.lt_irrefl _)⟩
  · exact ⟨k, by omega, fun j hj => Classical.byContradiction fun e => h3 j hj e, fun _ => h2⟩
/-- blocks that stand, but for one -/
def Fx (B xb rb : Nat) (W : World) : Nat → Prop := fun k => (B ≤ k ∧ k < W.heap.size) ∧ k ≠ xb ∧ k ≠ rb
/-- a list that reads by the blocks from lo up to hi alone -/
def TabI (lo hi : Nat) (w : World) (v : Value) (l : List (List Int)) : Prop := TabS (fun k => lo ≤ k ∧ k < hi) w v l
theorem TabI.tab {lo hi : Nat} {w : World} {v : Value} {l : List (List Int)} (h : TabI lo hi w v l) : Tab w v l := TabS.tab h
theorem TabI.keep {lo hi : Nat} {w w' : World} {v : Value} {l : List (List Int)} (h : TabI lo hi w v l) (k : ∀ q, lo ≤ q → q < hi → w'.heap[q]? = w.heap[q]?) : TabI lo hi w' v l := TabS.keep h fun q hq => k q hq.1 hq.2
theorem TabI.below {lo hi B : Nat} {w w' : World} {v : Value} {l : List (List Int)} (h : TabI lo hi w v l) (k : Below B w w') (hB : hi ≤ B) : TabI lo hi w' v l := h.keep fun q _ hq => k.block q (by omega)
theorem TabI.mono {lo hi lo' hi' : Nat} {w : World} {v : Value} {l : List (List Int)} (h : TabI lo hi w v l) (h1 : lo' ≤ lo) (h2 : hi ≤ hi') : TabI lo' hi' w v l := TabS.mono h fun q hq => ⟨by omega, by omega⟩
theorem Fx.ag {B xb rb : Nat} {W W' : World} (h : BelX (fun q => q = xb) W W') : Ag (Fx B xb rb W) W W' := fun k hk => h.block k hk.1.2 hk.2.1
theorem Fx.res {B xb rb : Nat} {W : World} {cs : Array Value} : Ag (Fx B xb rb W) W (W.setRow rb cs) := fun k hk => by
  have h2 := hk.2.2
  show (W.heap.modify rb _)[k]? = _
  rw [Array.getElem?_modify, if_neg fun e => h2 e.symm]
theorem TabS.fx {B xb rb : Nat} {W W' : World} {v : Value} {l : List (List Int)} (h : TabS (Fx B xb rb W) W v l) (hb : BelX (fun q => q = xb) W W') : TabS (Fx B xb rb W') W' v l := (h.keep (Fx.ag hb)).mono fun _ hk => ⟨⟨hk.1.1, Nat.lt_of_lt_of_le hk.1.2 hb.size⟩, hk.2⟩
theorem one_of_rows {F : Nat → Prop} {w : World} {vs : List Value} {xs : List (List Int)} (h : RowsF F w vs xs) : ∀ y ∈ vs, y.oneCell' = true := fun y hy => by
  obtain ⟨j, hj, rfl⟩ := List.mem_iff_getElem.1 hy
  obtain ⟨u, hu, hx⟩ := h.2 j (by rw [← h.1]; exact hj)
  rw [List.getElem?_eq_getElem hj] at hu
  injection hu with hu
  obtain ⟨A, c, e, -⟩ := hx.at_.open_
  rw [hu, e]
  rfl
theorem rows_put {F : Nat → Prop} {w : World} {vs : List Value} {xs : List (List Int)} (h : RowsF F w vs xs) {u : Value} {x : List Int} (hu : IntsF F w u x) {k : Nat} (hk : k ≤ xs.length) : RowsF F w (vs.take k ++ [u] ++ vs.drop k) (xs.take k ++ [x] ++ xs.drop k) := by
  have hl := h.1
  have l1 : (vs.take k).length = k := by rw [List.length_take]; omega
  have l2 : (xs.take k).length = k := by rw [List.length_take]; omega
  refine ⟨by simp only [List.length_append, List.length_drop, l1, l2, List.length_singleton, hl], fun j hj => ?_⟩
  rcases Nat.lt_trichotomy j k with hjk | rfl | hjk
  · obtain ⟨y, hy, hx⟩ := h.2 j (by omega)
    refine ⟨y, ?_, ?_⟩
    · rw [List.append_assoc, List.getElem?_append_left (by omega), List.getElem?_take, if_pos hjk]; exact hy
    · rw [List.getD_eq_getElem?_getD, List.append_assoc, List.getElem?_append_left (by omega), List.getElem?_take, if_pos hjk, ← List.getD_eq_getElem?_getD]
      exact hx
  · refine ⟨u, ?_, ?_⟩
    · rw [List.append_assoc, List.getElem?_append_right (by omega), l1, Nat.sub_self]; rfl
    · rw [List.getD_eq_getElem?_getD, List.append_assoc, List.getElem?_append_right (by omega), l2, Nat.sub_self]
      exact hu
  · have hj2 : j - 1 < xs.length := by
      simp only [List.length_append, List.length_drop, l2, List.length_singleton] at hj
      omega
    obtain ⟨y, hy, hx⟩ := h.2 (j - 1) hj2
    have e1 : (vs.take k ++ [u]).length = k + 1 := by rw [List.length_append, l1]; rfl
    have e2 : (xs.take k ++ [x]).length = k + 1 := by rw [List.length_append, l2]; rfl
    refine ⟨y, ?_, ?_⟩
    · rw [List.getElem?_append_right (by omega), e1, List.getElem?_drop, show k + (j - (k + 1)) = j - 1 by omega]; exact hy
    · rw [List.getD_eq_getElem?_getD, List.getElem?_append_right (by omega), e2, List.getElem?_drop, show k + (j - (k + 1)) = j - 1 by omega, ← List.getD_eq_getElem?_getD]
      exact hx
theorem bs22e (w : World) : (Instr.buildSlice 22 0 #[]).run Tryz.prog w = .ok (.slice (some ⟨w.heap.size, 0, none⟩) 0 0) (w.alloc (.cells #[] 36)) := by kernel_rfl
theorem r_bs22e {o : Oper} {a : Act} {w : World} (ho : o.op = .buildSlice 22 0 #[]) : (execOp a.eval o).run Tryz.prog w = .ok (.value (.slice (some ⟨w.heap.size, 0, none⟩) 0 0)) (w.alloc (.cells #[] 36)) := by
  have hb := bs22e w
  unfold execOp
  simp only [ho, List.map_toArray, List.map_nil, Sem.run_bind, hb, Result.andThen_ok]
  rfl
theorem own_empty36 {base b : Nat} {w : World} (hb : base ≤ b) (h : w.heap[b]? = some (.cells #[] 36 (0, 0))) : w.ownsRow base 36 1 (.slice (some ⟨b, 0, none⟩) 0 0) 0 [] :=
  ⟨rfl, .inr ⟨b, 0, _, rfl, hb, h, Nat.le_refl _, by simp [maxLen], rfl, rfl⟩⟩
theorem cell_one {w : World} {b : Nat} {u : Value} {e : TypeId} (h : w.heap[b]? = some (.cells #[u] e (0, 0))) : w.cell? ⟨b, 0, none⟩ = some u := by
  rw [cell_of_row _ _ _ _ _ _ h]; rfl
set_option maxRecDepth 100000 in
set_option maxHeartbeats 4000000 in
theorem clean39_ok (w : World) (vr : Value) (g : Int) (rels : List (List Int)) (hR : Tab w vr rels) (he : presE g rels = 0) : Calls Tryz.prog 39 #[.agg #[.int .i64 g, vr]] w fun e w' => (∃ A c, e = .returned (.tuple #[.agg #[.int .i64 g, .slice A (cleanL rels).length c], .int .i64 0]) ∧ TabI w.heap.size w'.heap.size w' (.slice A (cleanL rels).length c) (cleanL rels)) ∧ Below w.heap.size w w' := by
  obtain ⟨Ar, cr, rfl⟩ := Tab.form hR
  obtain ⟨gn, hgn, hg1, hg2, hln, hall⟩ := presE_good he
  have hlen : ∀ j, (rels.getD j []).length ≤ 4000 := fun j => by
    rcases Nat.lt_or_ge j rels.length with h | h
    · have h1 := (vld_of (hgn ▸ he : presE (gn : Int) rels = 0)).len
      exact Nat.le_trans (lenL_mem (by rw [List.getD_eq_getElem?_getD, List.getElem?_eq_getElem h]; exact List.getElem_mem h)) h1
    · rw [List.getD_eq_getElem?_getD, List.getElem?_eq_none h]; simp
  have H33 : Hid (∀ W, Tab W (.slice Ar rels.length cr) rels → Calls Tryz.prog 33 #[.agg #[.int .i64 g, .slice Ar rels.length cr]] W fun e w' => (∃ y, e = .returned (.tuple #[.int .i64 0, .int .i64 y])) ∧ Below W.heap.size W w') := Lib.hid fun W h => by
    have := pcheck79_any W _ g rels h fun j => by have := hlen j; omega
    unfold PresPost at this
    rwa [he] at this
  have HOK : Hid (∀ j, j < rels.length → LOk 16 (rels.getD j []) ∧ (rels.getD j []).length ≤ 4000) := Lib.hid fun j hj => ⟨fun z hz => by have := (hall j hj).1 z hz; omega, hlen j⟩
  have HRL : Hid (rels.length ≤ 100) := Lib.hid hln
  have HCN : Hid (cleanL rels = cleanTo rels rels.length) := Lib.hid rfl
  have hrl0 : (0 : Int) ≤ (rels.length : Int) := Int.natCast_nonneg _
  have hrl1 : (rels.length : Int) ≤ 100 := by omega
  have HPB : Hid (∀ w0 : World, w0 = (w.alloc (.cells #[.int .i64 g, .slice Ar rels.length cr] 24)).alloc (.cells zero40 24) → Below w.heap.size w w0 ∧ w0.heap.size = w.heap.size + 2 ∧ w0.heap[w.heap.size]? = some (.cells #[.int .i64 g, .slice Ar rels.length cr] 24 (0, 0)) ∧ w0.heap[w.heap.size + 1]? = some (.cells zero40 24 (0, 0))) := Lib.hid fun w0 h => by
    subst h
    refine ⟨((Below.refl _ _).alloc (Nat.le_refl _) _).alloc (by simp) _, by simp, ?_, ?_⟩
    · exact (Below.heap_alloc (w.alloc _) _ w.heap.size (by simp)).trans (heap_alloc_new w _)
    · have := heap_alloc_new (w.alloc (.cells #[.int .i64 g, .slice Ar rels.length cr] 24)) (.cells zero40 24); rwa [World.size_alloc] at this
  have HRR := Lib.hid hR
  clear hR he hgn hg1 hg2 hln hall hlen
  go_enter Tryz.func39, Tryz.ntmps39
  go_wp2_with ((with_reducible refine wpList_sel 2 ?_); refine wpList_val rfl (r_alloc40 rfl) ?_)
  generalize hw0 : (w.alloc (.cells #[.int .i64 g, .slice Ar rels.length cr] 24)).alloc (.cells zero40 24) = w0 at *
  obtain ⟨hb0, hsz, hbp, hbr⟩ := HPB.out w0 rfl
  have HB0 := Lib.hid hb0
  have HSZ := Lib.hid hsz
  have HBP := Lib.hid hbp
  have HBR := Lib.hid hbr
  have HR0 := Lib.hid (kept_tab.below HRR.out hb0)
  clear hw0 hb0 hsz hbp hbr HPB HRR
  go_wp2_with ((with_reducible refine wpList_sel 11 ?_); refine wpList_val rfl (r_loadAt 24 (.tmp 1) _ _ rfl rfl (load40 HBP.out)) ?_)
  refine (H33.out w0 HR0.out).mono ?_
  rintro e w1 ⟨⟨y, rfl⟩, hb⟩
  have HB1 := Lib.hid (HB0.out.trans (hb.mono HB0.out.size))
  have HBP1 := Lib.hid ((hb.block _ (Array.getElem?_eq_some_iff.1 HBP.out).1).trans HBP.out)
  have HBR1 := Lib.hid ((hb.block _ (Array.getElem?_eq_some_iff.1 HBR.out).1).trans HBR.out)
  have HR1 := Lib.hid (kept_tab.below HR0.out hb)
  clear hb HBP HBR HR0 H33 HSZ
  have x1 := (cell_of2 HBP1.out).1
  obtain ⟨wA, hwA⟩ : ∃ wA, wA = w1.alloc (.cells #[.int .i64 g, .slice none 0 0] 24) := ⟨_, rfl⟩
  go_wp2_with fail
  rw [← hwA]
  clear x1
  have hbA : Below w1.heap.size w1 wA := by rw [hwA]; exact (Below.refl _ _).alloc (Nat.le_refl _) _
  have HXA : Hid (wA.heap[w1.heap.size]? = some (.cells #[.int .i64 g, .slice none 0 0] 24 (0, 0))) := Lib.hid (by rw [hwA]; exact heap_alloc_new w1 _)
  obtain ⟨xb, hxb⟩ : ∃ xb, xb = w1.heap.size := ⟨_, rfl⟩
  rw [← hxb] at HXA ⊢
  have HXB : Hid (w.heap.size ≤ xb ∧ xb < wA.heap.size) := Lib.hid ⟨by rw [hxb]; exact HB1.out.size, (Array.getElem?_eq_some_iff.1 HXA.out).1⟩
  have HBA : Hid (Below w.heap.size w wA) := Lib.hid (HB1.out.trans (hbA.mono HB1.out.size))
  have hpx : ∀ {k o}, w1.heap[k]? = some o → k ≠ xb := fun h e => by have := (Array.getElem?_eq_some_iff.1 h).1; omega
  have HPP : Hid (∀ W, BelX (fun q => q = xb) wA W → W.heap[w.heap.size]? = some (.cells #[.int .i64 g, .slice Ar rels.length cr] 24 (0, 0)) ∧ W.heap[w.heap.size + 1]? = some (.cells zero40 24 (0, 0)) ∧ Tab W (.slice Ar rels.length cr) rels ∧ Below w.heap.size w W) := Lib.hid fun W h => by
    have l1 := (Array.getElem?_eq_some_iff.1 HBP1.out).1
    have l2 := (Array.getElem?_eq_some_iff.1 HBR1.out).1
    refine ⟨((h.block _ (Nat.lt_of_lt_of_le l1 hbA.size) (hpx HBP1.out)).trans (hbA.block _ l1)).trans HBP1.out, ((h.block _ (Nat.lt_of_lt_of_le l2 hbA.size) (hpx HBR1.out)).trans (hbA.block _ l2)).trans HBR1.out, kept_tab _ _ _ _ (fun k hk => (h.block k (Nat.lt_of_lt_of_le hk hbA.size) (by omega)).trans (hbA.block k hk)) HR1.out, ?_⟩
    exact h.below HBA.out.size (fun k hk => by rw [hk]; exact HXB.out.1) |> fun h2 => HBA.out.trans h2
  obtain ⟨rb, hrb⟩ : ∃ rb, rb = w.heap.size + 1 := ⟨_, rfl⟩
  have HRB : Hid (rb < wA.heap.size) := Lib.hid (by rw [hrb]; exact Nat.lt_of_lt_of_le (Array.getElem?_eq_some_iff.1 HBR1.out).1 hbA.size)
  have HRE := Lib.hid hrb
  clear hwA hbA hpx hxb HBP1 HBR1 HR1 HB1 HB0 hrb
  go_loopw [7] (fun i wr => ∃ k : Nat, i = .int .i64 (k : Int) ∧ k ≤ rels.length ∧ Hid (∃ A c, wr.heap[xb]? = some (.cells #[.int .i64 g, .slice A (cleanTo rels k).length c] 24 (0, 0)) ∧ TabS (Fx w.heap.size xb rb wr) wr (.slice A (cleanTo rels k).length c) (cleanTo rels k) ∧ BelX (fun q => q = xb) wA wr)) (fun i _ => rels.length - (intOf i).toNat)
  case atStart => exact ⟨0, rfl, Nat.zero_le _, Lib.hid ⟨none, 0, HXA.out, ⟨[], fun _ _ => ⟨none, 0, 0, rfl, rfl, Nat.le_refl _, by simp [maxLen], fun h => absurd h (by omega)⟩, RowsF.nil _ _⟩, ⟨rfl, rfl, rfl, Nat.le_refl _, fun _ _ _ => rfl⟩⟩⟩
  case round =>
    clear HXA
    obtain ⟨i, rfl, hi, HI⟩ := hrel
    obtain ⟨A, c, hbx, hts, hbl⟩ := HI.out
    obtain ⟨hp1, hp2, hp3, hp4⟩ := HPP.out wr hbl
    have HBX0 := Lib.hid hbx
    have HTS0 := Lib.hid hts
    have HBL := Lib.hid hbl
    have hi0 : (0 : Int) ≤ (i : Int) := Int.natCast_nonneg _
    clear hbx hts hbl HI
    by_cases hil : i < rels.length
    · have hil' : (i : Int) < (rels.length : Int) := by omega
      have x1 := (cell_of2 hp1).2
      obtain ⟨A', c', e', -, -, hcc⟩ := LAt.open_ hp3
      obtain ⟨rfl, -, rfl⟩ := Value.slice.inj e'
      obtain ⟨br, or_, rfl, hc⟩ := hcc (by omega)
      obtain ⟨v, x2, hv⟩ := hc i hil
      obtain ⟨Aw, cw, rfl, -, -, -⟩ := hv.open_
      have H77 := Lib.hid (least77_any wr _ _ hv (HOK.out i hil).1 (HOK.out i hil).2)
      have HNX : Hid (cleanTo rels (i + 1) = if leastW (rels.getD i []) = [] then cleanTo rels i else ins (leastW (rels.getD i [])) (cleanTo rels i)) := Lib.hid rfl
      have HLM : Hid ((∀ z ∈ leastW (rels.getD i []), Mild z)) := Lib.hid fun z hz => by
        have := leastW_ok (HOK.out i hil).1 z hz
        exact ⟨by omega, by omega⟩
      have HCM : Hid (∀ l ∈ cleanTo rels i, ∀ z ∈ l, Mild z) := Lib.hid fun l hl z hz => by
        obtain ⟨r, hr, rfl, -⟩ := mem_cleanTo i (by omega) hl
        obtain ⟨j, hj, rfl⟩ := List.getElem_of_mem hr
        have h1 := (HOK.out j hj).1
        rw [List.getD_eq_getElem?_getD, List.getElem?_eq_getElem hj] at h1
        have := leastW_ok h1 z hz
        exact ⟨by omega, by omega⟩
      have HCL : Hid ((cleanTo rels i).length ≤ 100) := Lib.hid (by have := (clean_len rels i (by omega)).2; have := HRL.out; omega)
      unfold OwnPost at H77
      generalize leastW (rels.getD i []) = x at *
      generalize (rels.getD i []).length = lw at *
      clear hcc hc hv e' hp1 hp2 hp3 hp4
      go_wp2_with fail
      refine H77.out.mono ?_
      rintro e w5 ⟨A8, c8, rfl, ho8, hb8⟩
      clear x1 x2
      have HB5 : Hid (BelX (fun q => q = xb) wA w5) := Lib.hid (HBL.out.trans (BelX.of_below hb8))
      have HXW : Hid (IntsF (Fx w.heap.size xb rb w5) w5 (.slice A8 x.length c8) x) := Lib.hid ((IntsF.of_own ho8 (Mild.fits HLM.out)).mono fun k hk => ⟨⟨Nat.le_trans (Nat.le_trans HBA.out.size HBL.out.size) (owns_block ho8 k hk).1, owns_lt ho8 hk⟩, fun e => by
        have h1 := (owns_block ho8 k hk).1
        have h2 := HXB.out.2
        have h3 := HBL.out.size
        omega, fun e => by
        have h1 := (owns_block ho8 k hk).1
        have h2 := HRB.out
        have h3 := HBL.out.size
        omega⟩)
      have HBX5 := Lib.hid ((hb8.block _ (Array.getElem?_eq_some_iff.1 HBX0.out).1).trans HBX0.out)
      have HTS5 := Lib.hid (HTS0.out.fx (BelX.of_below hb8))
      clear ho8 hb8 HBX0 HTS0 HBL H77
      by_cases hx0 : x = []
      · have HN2 : Hid (cleanTo rels (i + 1) = cleanTo rels i) := Lib.hid (by rw [HNX.out, if_pos hx0])
        have hxl : x.length = 0 := by rw [hx0]; rfl
        generalize x.length = lx at *
        subst hxl
        go_wp2_with fail
        go_roundw
        case rel => exact ⟨i + 1, by go_num, by omega, Lib.hid ⟨A, c, by rw [HN2.out]; exact HBX5.out, by rw [HN2.out]; exact HTS5.out, HB5.out⟩⟩
        case measure => simp [intOf]; omega
      · have hxl : 0 < x.length := List.length_pos_iff.2 hx0
        rw [if_neg hx0] at HNX
        generalize cleanTo rels i = L at *
        obtain ⟨lx, hlx⟩ : ∃ lx, lx = x.length := ⟨_, rfl⟩
        obtain ⟨n, hn⟩ : ∃ n, n = L.length := ⟨_, rfl⟩
        rw [← hlx] at HXW hxl ⊢
        rw [← hn] at HBX5 HTS5 HCL
        have HLX := Lib.hid hlx
        have HLN := Lib.hid hn
        have hl0 : ((lx : Int) == 0) = false := by rw [beq_eq_false_iff_ne]; omega
        have hl1 : (lx == 0) = false := by rw [beq_eq_false_iff_ne]; omega
        clear hlx hn hx0 hxl
        obtain ⟨k0, hk1, hk2, hk3⟩ := ins_place x L
        have HPL := Lib.hid hk2
        have hk4 : (k0 : Int) ≤ (n : Int) := by have := HLN.out; omega
        have hk5 : (0 : Int) ≤ (k0 : Int) := Int.natCast_nonneg _
        have hn1 : (n : Int) ≤ 100 := by have := HCL.out; omega
        have HK0 : Hid (k0 ≤ n) := Lib.hid (by omega)
        have HK3 : Hid (k0 < n → ¬ cmpW (L.getD k0 []) x < 0) := Lib.hid fun h => hk3 (by rw [← HLN.out]; exact h)
        have HROW : Hid (∀ W, BelX (fun q => q = xb) w5 W → ∀ k, k < n → ∃ b o, A = some ⟨b, o, none⟩ ∧ ∃ Au cu, W.cell? ⟨b, o + k, none⟩ = some (.slice Au (L.getD k []).length cu) ∧ IntsAt W (.slice Au (L.getD k []).length cu) (L.getD k [])) := Lib.hid fun W h k hk => by
          obtain ⟨A', c', e', -, -, hcc⟩ := LAt.open_ (HTS5.out.fx h).tab
          obtain ⟨rfl, -, rfl⟩ := Value.slice.inj e'
          obtain ⟨b, o, rfl, hc⟩ := hcc (by have := HLN.out; omega)
          obtain ⟨u, hu, hv⟩ := hc k (by have := HLN.out; omega)
          obtain ⟨Au, cu, rfl, -, -, -⟩ := hv.open_
          exact ⟨b, o, rfl, Au, cu, hu, hv⟩
        have HXI : Hid (∀ W, BelX (fun q => q = xb) w5 W → IntsAt W (.slice A8 lx c8) x) := Lib.hid fun W h => (HXW.out.keep (Fx.ag h)).at_
        have HBO : Hid (∀ q, (w5.drewN q).heap[xb]? = some (.cells #[.int .i64 g, .slice A n c] 24 (0, 0))) := Lib.hid fun q => HBX5.out
        have HMX : Hid (∀ k, k < n → ∀ z ∈ L.getD k [], Mild z) := Lib.hid fun k hk => HCM.out _ (by rw [List.getD_eq_getElem?_getD, List.getElem?_eq_getElem (by have := HLN.out; omega)]; exact List.getElem_mem _)
        clear hk1 hk2 hk3 HCM
        go_wp2_with fail
        go_loopw [9] (fun vk wr => ∃ k : Nat, vk = .int .i64 (k : Int) ∧ k ≤ k0 ∧ ∃ q, wr = w5.drewN q) (fun vk _ => k0 - (intOf vk).toNat)
        case atStart => exact ⟨0, rfl, Nat.zero_le _, 0, rfl⟩
        case round =>
          obtain ⟨k, rfl, hk, q, rfl⟩ := hrel
          have hkk0 : (0 : Int) ≤ (k : Int) := Int.natCast_nonneg _
          have x1 := (cell_of2 (HBO.out q)).2
          have hbq : BelX (fun q => q = xb) w5 (w5.drewN q) := BelX.of_below (below_drewN (Below.refl _ _) q)
          by_cases hkk : k < k0
          · have hkn : (k : Int) < (n : Int) := by omega
            have hkn' : k < n := by omega
            obtain ⟨b, o, rfl, Au, cu, x2, hv⟩ := HROW.out _ hbq k hkn'
            have H78 := Lib.hid (cmp78_any (w5.drewN q) _ _ _ x hv (HXI.out _ hbq) (HMX.out k hkn') HLM.out)
            have hcm := HPL.out k hkk
            generalize cmpW (L.getD k []) x = z at *
            generalize (L.getD k []).length = lu at *
            clear hv hbq
            go_wp2_with (go_at_call 78; (refine H78.out.mono ?_); rintro e w' ⟨rfl, q2, rfl⟩)
            go_roundw
            case rel => exact ⟨k + 1, by go_num, by omega, _, rfl⟩
            case measure => simp [intOf]; omega
          · obtain rfl : k = k0 := by omega
            have HX9 := Lib.hid x1
            have HBQ := Lib.hid hbq
            obtain ⟨vs, hvs1, hvs2⟩ := HTS5.out
            have HVR := Lib.hid hvs2
            have HVL : Hid (vs.length = n ∧ n ≤ 100) := Lib.hid ⟨by rw [hvs2.1]; exact HLN.out.symm, HCL.out⟩
            have HVO : Hid (∀ y ∈ vs, y.oneCell' = true) := Lib.hid (one_of_rows hvs2)
            obtain ⟨Ah', hq1, -, hc9⟩ := sl_cut2 (k := 0) (h := k) (hvs1 w5 (Ag.refl _ _)) (Nat.zero_le k) HK0.out
            obtain ⟨Al', hq3, -, -⟩ := sl_cut2 (k := k) (h := n) (hvs1 w5 (Ag.refl _ _)) HK0.out (Nat.le_refl n)
            obtain ⟨Ah, ch, hq2⟩ : ∃ Ah ch, sliced A 0 k c 1 = .slice Ah k ch := ⟨_, _, hq1⟩
            obtain ⟨nk, hnk⟩ : ∃ nk, nk = n - k := ⟨_, rfl⟩
            rw [← hnk] at hq3
            obtain ⟨Al, cl, hq4⟩ : ∃ Al cl, sliced A k n c 1 = .slice Al nk cl := ⟨_, _, hq3⟩
            have HL2 := Lib.hid hq2
            have HL1 := Lib.hid hq4
            have HC := Lib.hid hc9
            have HNK := Lib.hid hnk
            have HK := HK0
            have HVS5 := Lib.hid hvs1
            clear hq1 hq2 hq3 hq4 hc9 hnk hvs1 hvs2 HTS5 hkk hk hbq
            by_cases hkn : k < n
            · have hkn' : (k : Int) < (n : Int) := by omega
              obtain ⟨bg, og, rfl, Au, cu, x2, hv⟩ := HROW.out _ HBQ.out k hkn
              have hcm := HK3.out hkn
              have hv' := hv
              have hmx' := HMX.out k hkn
              have hxi' := HXI.out _ HBQ.out
              have H78 := Lib.hid (cmp78_any (w5.drewN q) _ _ _ x hv hxi' hmx' HLM.out)
              have HV9 := Lib.hid fun (r : Nat) => equal80_any (w5.drewN r) _ _ (L.getD k []) x hv hxi'
              have HEX : Hid (L.getD k [] = x → cleanTo rels (i + 1) = L) := Lib.hid fun e => by rw [HNX.out]; exact ins_there (by rw [← HLN.out]; exact hkn) HPL.out e
              have HNE : Hid (L.getD k [] ≠ x → cleanTo rels (i + 1) = L.take k ++ [x] ++ L.drop k) := Lib.hid fun e => by rw [HNX.out]; exact ins_at (by rw [← HLN.out]; exact HK0.out) HPL.out fun _ => ⟨by have := HK3.out hkn; omega, e⟩
              clear hv hv' hmx' hxi'
              by_cases hex : L.getD k [] = x
              · have HN2 := Lib.hid (HEX.out hex)
                rw [decide_eq_true hex] at HV9
                clear HEX HNE hex
                generalize cmpW (L.getD k []) x = z at *
                generalize (L.getD k []).length = lu at *
                generalize L.getD k [] = y at *
                go_wp2_with (first
                  | (go_at_call 78; (refine H78.out.mono ?_); rintro e w' ⟨rfl, q2, rfl⟩
                     have x5 := (cell_of2 (HBO.out (q + q2))).2
                     have x6 : (w5.drewN (q + q2)).cell? ⟨bg, og + k, none⟩ = some (.slice Au lu cu) := x2)
                  | (go_at_call 40; (refine (HV9.out _).mono ?_); rintro e w' ⟨rfl, q3, rfl⟩))
                go_roundw
                case rel => exact ⟨i + 1, by go_num, by omega, Lib.hid ⟨_, c, by rw [HN2.out, ← HLN.out]; exact HBX5.out, by rw [HN2.out, ← HLN.out]; exact TabS.fx (W := w5) ⟨vs, HVS5.out, HVR.out⟩ (BelX.of_below (below_drewN (Below.refl _ _) _)), HB5.out.trans (BelX.of_below (below_drewN (Below.refl _ _) _))⟩⟩
                case measure => simp [intOf]; omega
              · have HN2 := Lib.hid (HNE.out hex)
                rw [decide_eq_false hex] at HV9
                clear HEX HNE hex
                generalize cmpW (L.getD k []) x = z at *
                generalize (L.getD k []).length = lu at *
                generalize L.getD k [] = y at *
                go_wp2_with (first
                  | (go_at_call 78; (refine H78.out.mono ?_); rintro e w' ⟨rfl, q2, rfl⟩
                     have x5 := (cell_of2 (HBO.out (q + q2))).2
                     have x6 : (w5.drewN (q + q2)).cell? ⟨bg, og + k, none⟩ = some (.slice Au lu cu) := x2)
                  | (go_at_call 40; (refine (HV9.out _).mono ?_); rintro e w' ⟨rfl, q3, rfl⟩))
                obtain ⟨wB, hwB⟩ : ∃ wB, wB = w5.drewN (q + q2 + q3) := ⟨_, rfl⟩
                rw [← hwB]
                have HVS : Hid (∀ W, Ag (Fx w.heap.size xb rb wB) wB W → Sl W (.slice (some ⟨bg, og, none⟩) n c) vs) := Lib.hid (by rw [hwB]; exact HVS5.out)
                have HBX : Hid (wB.heap[xb]? = some (.cells #[.int .i64 g, .slice (some ⟨bg, og, none⟩) n c] 24 (0, 0))) := Lib.hid (by rw [hwB]; exact HBX5.out)
                have HBW5 : Hid (BelX (fun q => q = xb) w5 wB) := Lib.hid (by rw [hwB]; exact BelX.of_below (below_drewN (Below.refl _ _) _))
                have HXBB : Hid (xb < wB.heap.size ∧ rb < wB.heap.size) := Lib.hid (by
                  have h1 := HB5.out.size
                  have h2 := HBW5.out.size
                  have h3 := HXB.out.2
                  have h4 := HRB.out
                  omega)
                have HLEN : Hid ((cleanTo rels (i + 1)).length = n + 1) := Lib.hid (by
                  rw [HN2.out]
                  have := HLN.out
                  have := HK0.out
                  simp only [List.length_append, List.length_take, List.length_drop, List.length_singleton]
                  omega)
                clear HVS5 hwB
                refine (wpIn_wide (n := 3)).1 ?_
                refine wpIn_region_act (by kernel_rfl) 16 rfl (fun i => if i < 15 then some (69 + i) else none) (lex_of (by kernel_rfl))
                  (fun ls a W => BelX (fun q => q = xb) wB W ∧
        (ls 15 = false → W.heap[xb]? = some (.cells #[.int .i64 g, .slice (some ⟨bg, og, none⟩) n c] 24 (0, 0))) ∧
        (ls 0 = true → ls 5 = false → ∃ b, slotv a (some 69) = .slice (some ⟨b, 0, none⟩) 0 0 ∧ wB.heap.size ≤ b ∧ W.heap[b]? = some (.cells #[] 36 (0, 0))) ∧
        (ls 7 = true → ls 8 = false → ∃ b, slotv a (some 76) = .slice (some ⟨b, 0, none⟩) 1 1 ∧ wB.heap.size ≤ b ∧ W.heap[b]? = some (.cells #[.slice A8 lx c8] 36 (0, 0))) ∧
        (ls 5 = true → ls 8 = false → ∃ A1 c1, slotv a (some 74) = .slice A1 k c1 ∧ W.ownsRow wB.heap.size 36 1 (.slice A1 k c1) k (vs.take k)) ∧
        (ls 8 = true → ls 13 = false → ∃ A1 c1, slotv a (some 77) = .slice A1 (k + 1) c1 ∧ W.ownsRow wB.heap.size 36 1 (.slice A1 (k + 1) c1) (k + 1) (vs.take k ++ [.slice A8 lx c8])) ∧
        (ls 13 = true → ∃ A1 c1, slotv a (some 82) = .slice A1 (n + 1) c1 ∧ W.ownsRow wB.heap.size 36 1 (.slice A1 (n + 1) c1) (n + 1) (vs.take k ++ [.slice A8 lx c8] ++ vs.drop k) ∧ (ls 15 = true → W.heap[xb]? = some (.cells #[.int .i64 g, .slice A1 (n + 1) c1] 24 (0, 0)))))
                  (fun i v _ => i = 0 ∨ i = 5 ∨ i = 7 ∨ i = 8 ∨ i = 13 ∨ v = ([undef, .pointer (some ⟨xb, 1, none⟩), .slice (some ⟨bg, og, none⟩) n c, .int .i64 (k : Int), .slice Ah k ch, undef, .slice A8 lx c8, undef, undef, .pointer (some ⟨xb, 1, none⟩), .slice (some ⟨bg, og, none⟩) n c, .int .i64 (k : Int), .slice Al nk cl, undef, .pointer (some ⟨xb, 1, none⟩), undef] : List Value).getD i undef)
                  (fun _ _ _ => True) (dm_inj (by kernel_rfl)) (fun _ _ _ _ _ _ _ _ _ h => h) (dm_lt (n := 85) (by kernel_rfl)) ?_ ?_ ?_
                · exact ⟨BelX.of_below (Below.refl wB.heap.size wB).drew, fun _ => HBX.out, fun h => by simp at h, fun h => by simp at h, fun h => by simp at h, fun h => by simp at h, fun h => by simp at h⟩
                · intro ls q o a w6 hq ho hS hls hcl hP hpre
                  obtain ⟨hS1, hS2, hS3, hS4, hS5, hS6, hS7⟩ := hS
                  have hcases : q = 0 ∨ q = 1 ∨ q = 2 ∨ q = 3 ∨ q = 4 ∨ q = 5 ∨ q = 6 ∨ q = 7 ∨ q = 8 ∨ q = 9 ∨ q = 10 ∨ q = 11 ∨ q = 12 ∨ q = 13 ∨ q = 14 ∨ q = 15 := by
                    have : q < 16 := hq
                    omega
                  have hasz : a.tmps.size = 85 := hP.size
                  have hz6 : wB.heap.size ≤ w6.heap.size := hS1.size
                  have hkp : ∀ (q t : Nat) (v : Value), q ≠ 0 → q ≠ 5 → q ≠ 7 → q ≠ 8 → q ≠ 13 → q ≠ 15 → t ≠ 69 → t ≠ 74 → t ≠ 76 → t ≠ 77 → t ≠ 82 → (BelX (fun q => q = xb) wB w6 ∧
        ((fun j => if q = j then true else ls j) 15 = false → w6.heap[xb]? = some (.cells #[.int .i64 g, .slice (some ⟨bg, og, none⟩) n c] 24 (0, 0))) ∧
        ((fun j => if q = j then true else ls j) 0 = true → (fun j => if q = j then true else ls j) 5 = false → ∃ b, slotv (a.put (some t) v) (some 69) = .slice (some ⟨b, 0, none⟩) 0 0 ∧ wB.heap.size ≤ b ∧ w6.heap[b]? = some (.cells #[] 36 (0, 0))) ∧
        ((fun j => if q = j then true else ls j) 7 = true → (fun j => if q = j then true else ls j) 8 = false → ∃ b, slotv (a.put (some t) v) (some 76) = .slice (some ⟨b, 0, none⟩) 1 1 ∧ wB.heap.size ≤ b ∧ w6.heap[b]? = some (.cells #[.slice A8 lx c8] 36 (0, 0))) ∧
        ((fun j => if q = j then true else ls j) 5 = true → (fun j => if q = j then true else ls j) 8 = false → ∃ A1 c1, slotv (a.put (some t) v) (some 74) = .slice A1 k c1 ∧ w6.ownsRow wB.heap.size 36 1 (.slice A1 k c1) k (vs.take k)) ∧
        ((fun j => if q = j then true else ls j) 8 = true → (fun j => if q = j then true else ls j) 13 = false → ∃ A1 c1, slotv (a.put (some t) v) (some 77) = .slice A1 (k + 1) c1 ∧ w6.ownsRow wB.heap.size 36 1 (.slice A1 (k + 1) c1) (k + 1) (vs.take k ++ [.slice A8 lx c8])) ∧
        ((fun j => if q = j then true else ls j) 13 = true → ∃ A1 c1, slotv (a.put (some t) v) (some 82) = .slice A1 (n + 1) c1 ∧ w6.ownsRow wB.heap.size 36 1 (.slice A1 (n + 1) c1) (n + 1) (vs.take k ++ [.slice A8 lx c8] ++ vs.drop k) ∧ ((fun j => if q = j then true else ls j) 15 = true → w6.heap[xb]? = some (.cells #[.int .i64 g, .slice A1 (n + 1) c1] 24 (0, 0))))) := fun q t v h0 h1 h2 h3 h4 h5 h6 h7 h8 h9 h10 => by
                    simp only [if_neg h0, if_neg h1, if_neg h2, if_neg h3, if_neg h4, if_neg h5, slotv_put_ne h6, slotv_put_ne h7, slotv_put_ne h8, slotv_put_ne h9, slotv_put_ne h10]
                    exact ⟨hS1, hS2, hS3, hS4, hS5, hS6, hS7⟩
                  have hal : ∀ o : Obj, Below w6.heap.size w6 (w6.alloc o) := fun o => (Below.refl _ _).alloc (Nat.le_refl _) _
                  have hxl : xb < w6.heap.size := Nat.lt_of_lt_of_le (Array.getElem?_eq_some_iff.1 HBX.out).1 hz6
                  have hxB : xb < wB.heap.size := (Array.getElem?_eq_some_iff.1 HBX.out).1
                  have hsl6 : Sl w6 (.slice (some ⟨bg, og, none⟩) n c) vs := HVS.out w6 (Fx.ag hS1)
                  rcases hcases with rfl | rfl | rfl | rfl | rfl | rfl | rfl | rfl | rfl | rfl | rfl | rfl | rfl | rfl | rfl | rfl
                  · obtain rfl := Option.some.inj ho
                    have n5 := not_yet hcl 5 rfl ⟨0, .data⟩ (by simp) rfl hls
                    have n8 := not_yet hcl 8 rfl ⟨5, .data⟩ (by simp) rfl n5
                    have n13 := not_yet hcl 13 rfl ⟨8, .data⟩ (by simp) rfl n8
                    have n15 := not_yet hcl 15 rfl ⟨13, .data⟩ (by simp) rfl n13
                    refine wpOpIn_of rfl rfl (wpW_val (r_bs22e rfl) ⟨_, rfl, ⟨?_, ?_, ?_, ?_, ?_, ?_, ?_⟩, trivial, (fun h => by simp at h), .inl rfl⟩)
                    · exact hS1.trans (BelX.of_below (hal _))
                    · intro h; exact ((hal _).block xb hxl).trans (hS2 (by simpa using h))
                    · intro _ _; exact ⟨w6.heap.size, slotv_same (by rw [hasz]; decide), hz6, heap_alloc_new w6 _⟩
                    · intro h h'; obtain ⟨b, e1, hb, hB⟩ := hS4 (by simpa using h) (by simpa using h')
                      exact ⟨b, (slotv_put_ne (a := a) (s := 69) (t := 76) (by decide)).trans e1, hb, ((hal _).block b (Array.getElem?_eq_some_iff.1 hB).1).trans hB⟩
                    · intro h; simp [n5] at h
                    · intro h; simp [n8] at h
                    · intro h; simp [n13] at h
                  · obtain rfl := Option.some.inj ho
                    exact wpOpIn_of rfl rfl (wpW_val (r_fld (.tmp 6) _ rfl (hP.out 6 (dm_out (by kernel_rfl))) (fld27_1 xb _)) ⟨_, rfl, hkp 1 70 _ (by decide) (by decide) (by decide) (by decide) (by decide) (by decide) (by decide) (by decide) (by decide) (by decide) (by decide), trivial, (fun h => by simp at h), .inr (.inr (.inr (.inr (.inr (rfl)))))⟩)
                  · obtain rfl := Option.some.inj ho
                    have n4 := not_yet hcl 4 rfl ⟨2, .data⟩ (by simp) rfl hls
                    have n5 := not_yet hcl 5 rfl ⟨4, .data⟩ (by simp) rfl n4
                    have n8 := not_yet hcl 8 rfl ⟨5, .data⟩ (by simp) rfl n5
                    have n13 := not_yet hcl 13 rfl ⟨8, .data⟩ (by simp) rfl n8
                    have n15 := not_yet hcl 15 rfl ⟨13, .data⟩ (by simp) rfl n13
                    exact wpOpIn_of rfl rfl (wpW_val (r_ld25 (.tmp 70) ⟨xb, 1, none⟩ rfl (show slotv a (some 70) = .pointer (some ⟨xb, 1, none⟩) from by have h := (hpre ⟨1, .data⟩ (by simp) rfl).2; simpa using h) (cell_of2 (hS2 n15)).2) ⟨_, rfl, hkp 2 71 _ (by decide) (by decide) (by decide) (by decide) (by decide) (by decide) (by decide) (by decide) (by decide) (by decide) (by decide), trivial, (fun h => by simp at h), .inr (.inr (.inr (.inr (.inr (rfl)))))⟩)
                  · obtain rfl := Option.some.inj ho
                    exact wpOpIn_of rfl rfl (wpW_val (r_move (.tmp 9) rfl (hP.out 9 (dm_out (by kernel_rfl)))) ⟨_, rfl, hkp 3 72 _ (by decide) (by decide) (by decide) (by decide) (by decide) (by decide) (by decide) (by decide) (by decide) (by decide) (by decide), trivial, (fun h => by simp at h), .inr (.inr (.inr (.inr (.inr (rfl)))))⟩)
                  · obtain rfl := Option.some.inj ho
                    exact wpOpIn_of rfl rfl (wpW_val ((run_sl_hi under25w size25w (.tmp 71) (.tmp 72) (some ⟨bg, og, none⟩) n c k rfl (show slotv a (some 71) = .slice (some ⟨bg, og, none⟩) n c from by have h := (hpre ⟨2, .data⟩ (by simp) rfl).2; simpa using h) (show slotv a (some 72) = .int .i64 (k : Int) from by have h := (hpre ⟨3, .data⟩ (by simp) rfl).2; simpa using h) HC.out).trans (by rw [HL2.out]; rfl)) ⟨_, rfl, hkp 4 73 _ (by decide) (by decide) (by decide) (by decide) (by decide) (by decide) (by decide) (by decide) (by decide) (by decide) (by decide), trivial, (fun h => by simp at h), .inr (.inr (.inr (.inr (.inr (rfl)))))⟩)
                  · obtain rfl := Option.some.inj ho
                    have n8 := not_yet hcl 8 rfl ⟨5, .data⟩ (by simp) rfl hls
                    have n13 := not_yet hcl 13 rfl ⟨8, .data⟩ (by simp) rfl n8
                    have n15 := not_yet hcl 15 rfl ⟨13, .data⟩ (by simp) rfl n13
                    have h0 := (hpre ⟨0, .data⟩ (by simp) rfl).1
                    obtain ⟨b, e0, hb0, hB0⟩ := hS3 h0 hls
                    obtain ⟨Ah', hq1, hq2, -⟩ := sl_cut2 (k := 0) (h := k) hsl6 (Nat.zero_le k) HK.out
                    rw [hq1.symm.trans HL2.out, List.drop_zero] at hq2
                    obtain ⟨A', c', w7, hrun, ho7, hg7, -⟩ := run_app (ty := 22) Tryz.underlying22 info25p rfl (by omega) w6 wB.heap.size _ 0 [] (own_empty36 hb0 hB0) _ (vs.take k) hq2 (fun y hy => HVO.out y (List.mem_of_mem_take hy)) (by omega) (by rw [List.length_take]; have := HVL.out; omega) hz6
                    have hkl : (vs.take k).length = k := by rw [List.length_take]; have := HVL.out; have := HK.out; omega
                    rw [hkl, Nat.zero_add, List.nil_append] at ho7
                    rw [hkl, Nat.zero_add] at hrun
                    have hgb : ∀ r, (Value.slice (some ⟨b, 0, none⟩) 0 0).ownBlock = some r → r = b := fun r hr => by cases hr; rfl
                    refine wpOpIn_of rfl rfl (wpW_val (r_app (.tmp 69) (.tmp 73) 22 rfl e0 (show slotv a (some 73) = .slice Ah k ch from by have h := (hpre ⟨4, .data⟩ (by simp) rfl).2; simpa using h) hrun) ⟨_, rfl, ⟨?_, ?_, ?_, ?_, ?_, ?_, ?_⟩, trivial, (fun h => by simp at h), .inr (.inl rfl)⟩)
                    · exact ⟨hg7.os.trans hS1.os, hg7.tape.trans hS1.tape, hg7.output.trans hS1.output, Nat.le_trans hS1.size hg7.size, fun q hq hx => (hg7.block q (Nat.lt_of_lt_of_le hq hS1.size) fun e => by have := hgb q e.symm; omega).trans (hS1.block q hq hx)⟩
                    · intro h; exact (hg7.block xb hxl fun e => by have := hgb xb e.symm; omega).trans (hS2 (by simpa using h))
                    · intro _ h'; simp at h'
                    · intro h h'; obtain ⟨b4, e1, hb, hB⟩ := hS4 (by simpa using h) (by simpa using h')
                      refine ⟨b4, (slotv_put_ne (a := a) (s := 74) (t := 76) (by decide)).trans e1, hb, (hg7.block b4 (Array.getElem?_eq_some_iff.1 hB).1 fun e => ?_).trans hB⟩
                      have := hgb b4 e.symm
                      subst this
                      rw [hB0] at hB
                      simp at hB
                    · intro _ _; exact ⟨A', c', slotv_same (by rw [hasz]; decide), ho7⟩
                    · intro h; simp [n8] at h
                    · intro h; simp [n13] at h
                  · obtain rfl := Option.some.inj ho
                    exact wpOpIn_of rfl rfl (wpW_val (r_move (.tmp 8) rfl (hP.out 8 (dm_out (by kernel_rfl)))) ⟨_, rfl, hkp 6 75 _ (by decide) (by decide) (by decide) (by decide) (by decide) (by decide) (by decide) (by decide) (by decide) (by decide) (by decide), trivial, (fun h => by simp at h), .inr (.inr (.inr (.inr (.inr (rfl)))))⟩)
                  · obtain rfl := Option.some.inj ho
                    have n8 := not_yet hcl 8 rfl ⟨7, .data⟩ (by simp) rfl hls
                    have n13 := not_yet hcl 13 rfl ⟨8, .data⟩ (by simp) rfl n8
                    have n15 := not_yet hcl 15 rfl ⟨13, .data⟩ (by simp) rfl n13
                    refine wpOpIn_of rfl rfl (wpW_val (r_bs25_1 (.tmp 75) A8 lx c8 rfl (show slotv a (some 75) = .slice A8 lx c8 from by have h := (hpre ⟨6, .data⟩ (by simp) rfl).2; simpa using h)) ⟨_, rfl, ⟨?_, ?_, ?_, ?_, ?_, ?_, ?_⟩, trivial, (fun h => by simp at h), .inr (.inr (.inl rfl))⟩)
                    · exact hS1.trans (BelX.of_below (hal _))
                    · intro h; exact ((hal _).block xb hxl).trans (hS2 (by simpa using h))
                    · intro h h'; obtain ⟨b, e1, hb, hB⟩ := hS3 (by simpa using h) (by simpa using h')
                      exact ⟨b, (slotv_put_ne (a := a) (s := 76) (t := 69) (by decide)).trans e1, hb, ((hal _).block b (Array.getElem?_eq_some_iff.1 hB).1).trans hB⟩
                    · intro _ _; exact ⟨w6.heap.size, slotv_same (by rw [hasz]; decide), hz6, heap_alloc_new w6 _⟩
                    · intro h h'; obtain ⟨A1, c1, e1, hw⟩ := hS5 (by simpa using h) (by simpa using h')
                      exact ⟨A1, c1, (slotv_put_ne (a := a) (s := 76) (t := 74) (by decide)).trans e1, owns_below hw (hal _)⟩
                    · intro h; simp [n8] at h
                    · intro h; simp [n13] at h
                  · obtain rfl := Option.some.inj ho
                    have n13 := not_yet hcl 13 rfl ⟨8, .data⟩ (by simp) rfl hls
                    have n15 := not_yet hcl 15 rfl ⟨13, .data⟩ (by simp) rfl n13
                    have h5 := (hpre ⟨5, .data⟩ (by simp) rfl).1
                    have h7 := (hpre ⟨7, .data⟩ (by simp) rfl).1
                    have h0 : ls 0 = true := hcl 5 _ rfl h5 ⟨0, .data⟩ (by simp) rfl
                    obtain ⟨A1, c1, e5, ho5⟩ := hS5 h5 hls
                    obtain ⟨b, e7, hb7, hB7⟩ := hS4 h7 hls
                    obtain ⟨A', c', w7, hrun, ho7, hg7, -⟩ := run_push_at (t := 22) (ty := 22) Tryz.underlying22 info25p rfl (by omega) w6 wB.heap.size _ k _ ho5 (.slice A8 lx c8) rfl (by have := HVL.out; have := HK.out; omega) hz6 b (cell_one hB7)
                    have hgb : ∀ r, (Value.slice A1 k c1).ownBlock = some r → wB.heap.size ≤ r := fun r hr => (owns_block ho5 r hr).1
                    refine wpOpIn_of rfl rfl (wpW_val (r_app (.tmp 74) (.tmp 76) 22 rfl e5 e7 hrun) ⟨_, rfl, ⟨?_, ?_, ?_, ?_, ?_, ?_, ?_⟩, trivial, (fun h => by simp at h), .inr (.inr (.inr (.inl rfl)))⟩)
                    · exact ⟨hg7.os.trans hS1.os, hg7.tape.trans hS1.tape, hg7.output.trans hS1.output, Nat.le_trans hS1.size hg7.size, fun q hq hx => (hg7.block q (Nat.lt_of_lt_of_le hq hS1.size) fun e => by have := hgb q e.symm; omega).trans (hS1.block q hq hx)⟩
                    · intro h; exact (hg7.block xb hxl fun e => by have := hgb xb e.symm; omega).trans (hS2 (by simpa using h))
                    · intro _ h'; simp [h5] at h'
                    · intro _ h'; simp at h'
                    · intro _ h'; simp at h'
                    · intro _ _; exact ⟨A', c', slotv_same (by rw [hasz]; decide), ho7⟩
                    · intro h; simp [n13] at h
                  · obtain rfl := Option.some.inj ho
                    exact wpOpIn_of rfl rfl (wpW_val (r_fld (.tmp 6) _ rfl (hP.out 6 (dm_out (by kernel_rfl))) (fld27_1 xb _)) ⟨_, rfl, hkp 9 78 _ (by decide) (by decide) (by decide) (by decide) (by decide) (by decide) (by decide) (by decide) (by decide) (by decide) (by decide), trivial, (fun h => by simp at h), .inr (.inr (.inr (.inr (.inr (rfl)))))⟩)
                  · obtain rfl := Option.some.inj ho
                    have n12 := not_yet hcl 12 rfl ⟨10, .data⟩ (by simp) rfl hls
                    have n13 := not_yet hcl 13 rfl ⟨12, .data⟩ (by simp) rfl n12
                    have n15 := not_yet hcl 15 rfl ⟨13, .data⟩ (by simp) rfl n13
                    exact wpOpIn_of rfl rfl (wpW_val (r_ld25 (.tmp 78) ⟨xb, 1, none⟩ rfl (show slotv a (some 78) = .pointer (some ⟨xb, 1, none⟩) from by have h := (hpre ⟨9, .data⟩ (by simp) rfl).2; simpa using h) (cell_of2 (hS2 n15)).2) ⟨_, rfl, hkp 10 79 _ (by decide) (by decide) (by decide) (by decide) (by decide) (by decide) (by decide) (by decide) (by decide) (by decide) (by decide), trivial, (fun h => by simp at h), .inr (.inr (.inr (.inr (.inr (rfl)))))⟩)
                  · obtain rfl := Option.some.inj ho
                    exact wpOpIn_of rfl rfl (wpW_val (r_move (.tmp 9) rfl (hP.out 9 (dm_out (by kernel_rfl)))) ⟨_, rfl, hkp 11 80 _ (by decide) (by decide) (by decide) (by decide) (by decide) (by decide) (by decide) (by decide) (by decide) (by decide) (by decide), trivial, (fun h => by simp at h), .inr (.inr (.inr (.inr (.inr (rfl)))))⟩)
                  · obtain rfl := Option.some.inj ho
                    exact wpOpIn_of rfl rfl (wpW_val ((run_sl_lo under25w size25w (.tmp 79) (.tmp 80) (some ⟨bg, og, none⟩) n c k rfl (show slotv a (some 79) = .slice (some ⟨bg, og, none⟩) n c from by have h := (hpre ⟨10, .data⟩ (by simp) rfl).2; simpa using h) (show slotv a (some 80) = .int .i64 (k : Int) from by have h := (hpre ⟨11, .data⟩ (by simp) rfl).2; simpa using h) HK.out).trans (by rw [HL1.out]; rfl)) ⟨_, rfl, hkp 12 81 _ (by decide) (by decide) (by decide) (by decide) (by decide) (by decide) (by decide) (by decide) (by decide) (by decide) (by decide), trivial, (fun h => by simp at h), .inr (.inr (.inr (.inr (.inr (rfl)))))⟩)
                  · obtain rfl := Option.some.inj ho
                    have n15 := not_yet hcl 15 rfl ⟨13, .data⟩ (by simp) rfl hls
                    have h8 := (hpre ⟨8, .data⟩ (by simp) rfl).1
                    have h5 : ls 5 = true := hcl 8 _ rfl h8 ⟨5, .data⟩ (by simp) rfl
                    obtain ⟨A1, c1, e8, ho8⟩ := hS6 h8 hls
                    obtain ⟨Al', hq1, hq2, -⟩ := sl_cut2 (k := k) (h := n) hsl6 HK.out (Nat.le_refl n)
                    rw [← HNK.out] at hq1 hq2
                    rw [hq1.symm.trans HL1.out] at hq2
                    rw [List.take_of_length_le (by rw [HVL.out.1]; exact Nat.le_refl _)] at hq2
                    obtain ⟨A', c', w7, hrun, ho7, hg7, -⟩ := run_app (ty := 22) Tryz.underlying22 info25p rfl (by omega) w6 wB.heap.size _ (k + 1) _ ho8 _ (vs.drop k) hq2 (fun y hy => HVO.out y (List.mem_of_mem_drop hy)) (by have := HVL.out; have := HK.out; omega) (by rw [List.length_drop]; have := HVL.out; omega) hz6
                    have hkl : k + 1 + (vs.drop k).length = n + 1 := by rw [List.length_drop]; have := HVL.out; have := HK.out; omega
                    rw [hkl] at hrun ho7
                    have hgb : ∀ r, (Value.slice A1 (k + 1) c1).ownBlock = some r → wB.heap.size ≤ r := fun r hr => (owns_block ho8 r hr).1
                    refine wpOpIn_of rfl rfl (wpW_val (r_app (.tmp 77) (.tmp 81) 22 rfl e8 (show slotv a (some 81) = .slice Al nk cl from by have h := (hpre ⟨12, .data⟩ (by simp) rfl).2; simpa using h) hrun) ⟨_, rfl, ⟨?_, ?_, ?_, ?_, ?_, ?_, ?_⟩, trivial, (fun h => by simp at h), .inr (.inr (.inr (.inr (.inl rfl))))⟩)
                    · exact ⟨hg7.os.trans hS1.os, hg7.tape.trans hS1.tape, hg7.output.trans hS1.output, Nat.le_trans hS1.size hg7.size, fun q hq hx => (hg7.block q (Nat.lt_of_lt_of_le hq hS1.size) fun e => by have := hgb q e.symm; omega).trans (hS1.block q hq hx)⟩
                    · intro h; exact (hg7.block xb hxl fun e => by have := hgb xb e.symm; omega).trans (hS2 (by simpa using h))
                    · intro _ h'; simp [h5] at h'
                    · intro _ h'; simp [h8] at h'
                    · intro _ h'; simp [h8] at h'
                    · intro _ h'; simp at h'
                    · intro _; exact ⟨A', c', slotv_same (by rw [hasz]; decide), ho7, fun h => by simp [n15] at h⟩
                  · obtain rfl := Option.some.inj ho
                    exact wpOpIn_of rfl rfl (wpW_val (r_fld (.tmp 6) _ rfl (hP.out 6 (dm_out (by kernel_rfl))) (fld27_1 xb _)) ⟨_, rfl, hkp 14 83 _ (by decide) (by decide) (by decide) (by decide) (by decide) (by decide) (by decide) (by decide) (by decide) (by decide) (by decide), trivial, (fun h => by simp at h), .inr (.inr (.inr (.inr (.inr (rfl)))))⟩)
                  · obtain rfl := Option.some.inj ho
                    have h13 := (hpre ⟨13, .data⟩ (by simp) rfl).1
                    have h8 : ls 8 = true := hcl 13 _ rfl h13 ⟨8, .data⟩ (by simp) rfl
                    have h5 : ls 5 = true := hcl 8 _ rfl h8 ⟨5, .data⟩ (by simp) rfl
                    obtain ⟨A1, c1, e13, ho13, -⟩ := hS7 h13
                    have hf : w6.frozen? ⟨xb, 1, none⟩ = false := frozen_row (hS2 hls) 1
                    have hg7 : w6.grownBy (w6.setCell ⟨xb, 1, none⟩ (.slice A1 (n + 1) c1)) (some xb) := grown_setCell w6 xb 1 _
                    refine wpOpIn_of rfl rfl (wpW_skip (r_store1 22 (.tmp 83) (.tmp 82) ⟨xb, 1, none⟩ _ (.slice A1 (n + 1) c1) rfl (show slotv a (some 83) = .pointer (some ⟨xb, 1, none⟩) from by have h := (hpre ⟨14, .data⟩ (by simp) rfl).2; simpa using h) e13 rfl (cell_of2 (hS2 hls)).2 hf (st25 _ _ _ _ _ (cell_of2 (hS2 hls)).2 hf)) ⟨undef, rfl, ⟨?_, ?_, ?_, ?_, ?_, ?_, ?_⟩, trivial, (fun _ => rfl), .inr (.inr (.inr (.inr (.inr (rfl)))))⟩)
                    · exact hS1.trans (BelX.of_grown hg7 fun r hr => by cases hr; rfl)
                    · intro h; simp at h
                    · intro _ h'; simp [h5] at h'
                    · intro _ h'; simp [h8] at h'
                    · intro _ h'; simp [h8] at h'
                    · intro _ h'; simp [h13] at h'
                    · intro _; refine ⟨A1, c1, e13, owns_keep ho13 fun r hr => hg7.block r (owns_lt ho13 hr) fun e => ?_, fun _ => (heap_set5 (hS2 hls)).trans rfl⟩
                      cases e
                      have := (owns_block ho13 _ hr).1
                      omega
                · intro ls a w6 hall hS hP hsl
                  obtain ⟨hS1, -, -, -, -, -, hS7⟩ := hS
                  obtain ⟨A3, c3, -, ho3, hB3⟩ := hS7 (hall 13 (by decide))
                  have HB3 := Lib.hid (hB3 (hall 15 (by decide)))
                  have HO3 := Lib.hid ho3
                  have HX3 := Lib.hid hS1
                  obtain ⟨vs2, hvs, hfr⟩ := hP.frame 85 rfl
                  clear hsl hP hall hvs hS1 hS7 hB3 ho3
                  subst hfr
                  have hno : ∀ n : Nat, ((none : Option Nat) == some n) = false := fun _ => rfl
                  simp only [hno, List.range, List.range.loop, List.map_cons, List.map_nil, List.any_cons, List.any_nil, Nat.reduceAdd, Nat.reduceBEq, Nat.reduceLT, Option.some_beq_some, Bool.or_false, if_true, if_false, List.getD_cons_zero, List.getD_cons_succ, Bool.or_true, Bool.false_eq_true]
                  have hb9 := HBW5.out.trans HX3.out
                  have HT9 : Hid (TabS (Fx w.heap.size xb rb w6) w6 (.slice A3 (n + 1) c3) (cleanTo rels (i + 1))) := Lib.hid (by
                    rw [HN2.out]
                    refine ⟨vs.take k ++ [.slice A8 lx c8] ++ vs.drop k, fun W ha => sl_of_owns (owns_keep HO3.out fun r hr => ha r ⟨⟨Nat.le_trans (Nat.le_trans HBA.out.size (Nat.le_trans HB5.out.size HBW5.out.size)) (owns_block HO3.out r hr).1, owns_lt HO3.out hr⟩, ?_, ?_⟩), ?_⟩
                    · intro e; have := (owns_block HO3.out r hr).1; have := HXBB.out.1; omega
                    · intro e; have := (owns_block HO3.out r hr).1; have := HXBB.out.2; omega
                    · exact rows_put (HVR.out.keep (Fx.ag hb9) fun q hq => ⟨⟨hq.1.1, Nat.lt_of_lt_of_le hq.1.2 hb9.size⟩, hq.2⟩) ((HXW.out.keep (Fx.ag hb9)).mono fun q hq => ⟨⟨hq.1.1, Nat.lt_of_lt_of_le hq.1.2 hb9.size⟩, hq.2⟩) (by rw [← HLN.out]; exact HK0.out))
                  have HB9 := Lib.hid (HB5.out.trans hb9)
                  clear hb9 HX3 HO3
                  go_wp2_with fail
                  go_roundw
                  case rel => exact ⟨i + 1, by go_num, by omega, Lib.hid ⟨A3, c3, by rw [HLEN.out]; exact HB3.out, by rw [HLEN.out]; exact HT9.out, HB9.out⟩⟩
                  case measure => simp [intOf]; omega
            · have hke : k = n := by have := HK0.out; omega
              have d1 : decide ((k : Int) < (n : Int)) = false := decide_eq_false (by omega)
              have d2 : decide (k < n) = false := decide_eq_false hkn
              have HN2 : Hid (cleanTo rels (i + 1) = L.take k ++ [x] ++ L.drop k) := Lib.hid (by rw [HNX.out]; exact ins_at (by rw [← HLN.out]; exact HK0.out) HPL.out fun h => absurd h (by rw [← HLN.out]; exact hkn))
              clear hke
              go_wp2_with fail
              obtain ⟨wB, hwB⟩ : ∃ wB, wB = w5.drewN q := ⟨_, rfl⟩
              rw [← hwB]
              have HVS : Hid (∀ W, Ag (Fx w.heap.size xb rb wB) wB W → Sl W (.slice A n c) vs) := Lib.hid (by rw [hwB]; exact HVS5.out)
              have HBX : Hid (wB.heap[xb]? = some (.cells #[.int .i64 g, .slice A n c] 24 (0, 0))) := Lib.hid (by rw [hwB]; exact HBX5.out)
              have HBW5 : Hid (BelX (fun q => q = xb) w5 wB) := Lib.hid (by rw [hwB]; exact BelX.of_below (below_drewN (Below.refl _ _) _))
              have HXBB : Hid (xb < wB.heap.size ∧ rb < wB.heap.size) := Lib.hid (by
                have h1 := HB5.out.size
                have h2 := HBW5.out.size
                have h3 := HXB.out.2
                have h4 := HRB.out
                omega)
              have HLEN : Hid ((cleanTo rels (i + 1)).length = n + 1) := Lib.hid (by
                rw [HN2.out]
                have := HLN.out
                have := HK0.out
                simp only [List.length_append, List.length_take, List.length_drop, List.length_singleton]
                omega)
              clear HVS5 hwB
              refine (wpIn_wide (n := 3)).1 ?_
              refine wpIn_region_act (by kernel_rfl) 16 rfl (fun i => if i < 15 then some (69 + i) else none) (lex_of (by kernel_rfl))
                (fun ls a W => BelX (fun q => q = xb) wB W ∧
        (ls 15 = false → W.heap[xb]? = some (.cells #[.int .i64 g, .slice A n c] 24 (0, 0))) ∧
        (ls 0 = true → ls 5 = false → ∃ b, slotv a (some 69) = .slice (some ⟨b, 0, none⟩) 0 0 ∧ wB.heap.size ≤ b ∧ W.heap[b]? = some (.cells #[] 36 (0, 0))) ∧
        (ls 7 = true → ls 8 = false → ∃ b, slotv a (some 76) = .slice (some ⟨b, 0, none⟩) 1 1 ∧ wB.heap.size ≤ b ∧ W.heap[b]? = some (.cells #[.slice A8 lx c8] 36 (0, 0))) ∧
        (ls 5 = true → ls 8 = false → ∃ A1 c1, slotv a (some 74) = .slice A1 k c1 ∧ W.ownsRow wB.heap.size 36 1 (.slice A1 k c1) k (vs.take k)) ∧
        (ls 8 = true → ls 13 = false → ∃ A1 c1, slotv a (some 77) = .slice A1 (k + 1) c1 ∧ W.ownsRow wB.heap.size 36 1 (.slice A1 (k + 1) c1) (k + 1) (vs.take k ++ [.slice A8 lx c8])) ∧
        (ls 13 = true → ∃ A1 c1, slotv a (some 82) = .slice A1 (n + 1) c1 ∧ W.ownsRow wB.heap.size 36 1 (.slice A1 (n + 1) c1) (n + 1) (vs.take k ++ [.slice A8 lx c8] ++ vs.drop k) ∧ (ls 15 = true → W.heap[xb]? = some (.cells #[.int .i64 g, .slice A1 (n + 1) c1] 24 (0, 0)))))
                (fun i v _ => i = 0 ∨ i = 5 ∨ i = 7 ∨ i = 8 ∨ i = 13 ∨ v = ([undef, .pointer (some ⟨xb, 1, none⟩), .slice A n c, .int .i64 (k : Int), .slice Ah k ch, undef, .slice A8 lx c8, undef, undef, .pointer (some ⟨xb, 1, none⟩), .slice A n c, .int .i64 (k : Int), .slice Al nk cl, undef, .pointer (some ⟨xb, 1, none⟩), undef] : List Value).getD i undef)
                (fun _ _ _ => True) (dm_inj (by kernel_rfl)) (fun _ _ _ _ _ _ _ _ _ h => h) (dm_lt (n := 85) (by kernel_rfl)) ?_ ?_ ?_
              · exact ⟨BelX.of_below (Below.refl wB.heap.size wB).drew, fun _ => HBX.out, fun h => by simp at h, fun h => by simp at h, fun h => by simp at h, fun h => by simp at h, fun h => by simp at h⟩
              · intro ls q o a w6 hq ho hS hls hcl hP hpre
                obtain ⟨hS1, hS2, hS3, hS4, hS5, hS6, hS7⟩ := hS
                have hcases : q = 0 ∨ q = 1 ∨ q = 2 ∨ q = 3 ∨ q = 4 ∨ q = 5 ∨ q = 6 ∨ q = 7 ∨ q = 8 ∨ q = 9 ∨ q = 10 ∨ q = 11 ∨ q = 12 ∨ q = 13 ∨ q = 14 ∨ q = 15 := by
                  have : q < 16 := hq
                  omega
                have hasz : a.tmps.size = 85 := hP.size
                have hz6 : wB.heap.size ≤ w6.heap.size := hS1.size
                have hkp : ∀ (q t : Nat) (v : Value), q ≠ 0 → q ≠ 5 → q ≠ 7 → q ≠ 8 → q ≠ 13 → q ≠ 15 → t ≠ 69 → t ≠ 74 → t ≠ 76 → t ≠ 77 → t ≠ 82 → (BelX (fun q => q = xb) wB w6 ∧
        ((fun j => if q = j then true else ls j) 15 = false → w6.heap[xb]? = some (.cells #[.int .i64 g, .slice A n c] 24 (0, 0))) ∧
        ((fun j => if q = j then true else ls j) 0 = true → (fun j => if q = j then true else ls j) 5 = false → ∃ b, slotv (a.put (some t) v) (some 69) = .slice (some ⟨b, 0, none⟩) 0 0 ∧ wB.heap.size ≤ b ∧ w6.heap[b]? = some (.cells #[] 36 (0, 0))) ∧
        ((fun j => if q = j then true else ls j) 7 = true → (fun j => if q = j then true else ls j) 8 = false → ∃ b, slotv (a.put (some t) v) (some 76) = .slice (some ⟨b, 0, none⟩) 1 1 ∧ wB.heap.size ≤ b ∧ w6.heap[b]? = some (.cells #[.slice A8 lx c8] 36 (0, 0))) ∧
        ((fun j => if q = j then true else ls j) 5 = true → (fun j => if q = j then true else ls j) 8 = false → ∃ A1 c1, slotv (a.put (some t) v) (some 74) = .slice A1 k c1 ∧ w6.ownsRow wB.heap.size 36 1 (.slice A1 k c1) k (vs.take k)) ∧
        ((fun j => if q = j then true else ls j) 8 = true → (fun j => if q = j then true else ls j) 13 = false → ∃ A1 c1, slotv (a.put (some t) v) (some 77) = .slice A1 (k + 1) c1 ∧ w6.ownsRow wB.heap.size 36 1 (.slice A1 (k + 1) c1) (k + 1) (vs.take k ++ [.slice A8 lx c8])) ∧
        ((fun j => if q = j then true else ls j) 13 = true → ∃ A1 c1, slotv (a.put (some t) v) (some 82) = .slice A1 (n + 1) c1 ∧ w6.ownsRow wB.heap.size 36 1 (.slice A1 (n + 1) c1) (n + 1) (vs.take k ++ [.slice A8 lx c8] ++ vs.drop k) ∧ ((fun j => if q = j then true else ls j) 15 = true → w6.heap[xb]? = some (.cells #[.int .i64 g, .slice A1 (n + 1) c1] 24 (0, 0))))) := fun q t v h0 h1 h2 h3 h4 h5 h6 h7 h8 h9 h10 => by
                  simp only [if_neg h0, if_neg h1, if_neg h2, if_neg h3, if_neg h4, if_neg h5, slotv_put_ne h6, slotv_put_ne h7, slotv_put_ne h8, slotv_put_ne h9, slotv_put_ne h10]
                  exact ⟨hS1, hS2, hS3, hS4, hS5, hS6, hS7⟩
                have hal : ∀ o : Obj, Below w6.heap.size w6 (w6.alloc o) := fun o => (Below.refl _ _).alloc (Nat.le_refl _) _
                have hxl : xb < w6.heap.size := Nat.lt_of_lt_of_le (Array.getElem?_eq_some_iff.1 HBX.out).1 hz6
                have hxB : xb < wB.heap.size := (Array.getElem?_eq_some_iff.1 HBX.out).1
                have hsl6 : Sl w6 (.slice A n c) vs := HVS.out w6 (Fx.ag hS1)
                rcases hcases with rfl | rfl | rfl | rfl | rfl | rfl | rfl | rfl | rfl | rfl | rfl | rfl | rfl | rfl | rfl | rfl
                · obtain rfl := Option.some.inj ho
                  have n5 := not_yet hcl 5 rfl ⟨0, .data⟩ (by simp) rfl hls
                  have n8 := not_yet hcl 8 rfl ⟨5, .data⟩ (by simp) rfl n5
                  have n13 := not_yet hcl 13 rfl ⟨8, .data⟩ (by simp) rfl n8
                  have n15 := not_yet hcl 15 rfl ⟨13, .data⟩ (by simp) rfl n13
                  refine wpOpIn_of rfl rfl (wpW_val (r_bs22e rfl) ⟨_, rfl, ⟨?_, ?_, ?_, ?_, ?_, ?_, ?_⟩, trivial, (fun h => by simp at h), .inl rfl⟩)
                  · exact hS1.trans (BelX.of_below (hal _))
                  · intro h; exact ((hal _).block xb hxl).trans (hS2 (by simpa using h))
                  · intro _ _; exact ⟨w6.heap.size, slotv_same (by rw [hasz]; decide), hz6, heap_alloc_new w6 _⟩
                  · intro h h'; obtain ⟨b, e1, hb, hB⟩ := hS4 (by simpa using h) (by simpa using h')
                    exact ⟨b, (slotv_put_ne (a := a) (s := 69) (t := 76) (by decide)).trans e1, hb, ((hal _).block b (Array.getElem?_eq_some_iff.1 hB).1).trans hB⟩
                  · intro h; simp [n5] at h
                  · intro h; simp [n8] at h
                  · intro h; simp [n13] at h
                · obtain rfl := Option.some.inj ho
                  exact wpOpIn_of rfl rfl (wpW_val (r_fld (.tmp 6) _ rfl (hP.out 6 (dm_out (by kernel_rfl))) (fld27_1 xb _)) ⟨_, rfl, hkp 1 70 _ (by decide) (by decide) (by decide) (by decide) (by decide) (by decide) (by decide) (by decide) (by decide) (by decide) (by decide), trivial, (fun h => by simp at h), .inr (.inr (.inr (.inr (.inr (rfl)))))⟩)
                · obtain rfl := Option.some.inj ho
                  have n4 := not_yet hcl 4 rfl ⟨2, .data⟩ (by simp) rfl hls
                  have n5 := not_yet hcl 5 rfl ⟨4, .data⟩ (by simp) rfl n4
                  have n8 := not_yet hcl 8 rfl ⟨5, .data⟩ (by simp) rfl n5
                  have n13 := not_yet hcl 13 rfl ⟨8, .data⟩ (by simp) rfl n8
                  have n15 := not_yet hcl 15 rfl ⟨13, .data⟩ (by simp) rfl n13
                  exact wpOpIn_of rfl rfl (wpW_val (r_ld25 (.tmp 70) ⟨xb, 1, none⟩ rfl (show slotv a (some 70) = .pointer (some ⟨xb, 1, none⟩) from by have h := (hpre ⟨1, .data⟩ (by simp) rfl).2; simpa using h) (cell_of2 (hS2 n15)).2) ⟨_, rfl, hkp 2 71 _ (by decide) (by decide) (by decide) (by decide) (by decide) (by decide) (by decide) (by decide) (by decide) (by decide) (by decide), trivial, (fun h => by simp at h), .inr (.inr (.inr (.inr (.inr (rfl)))))⟩)
                · obtain rfl := Option.some.inj ho
                  exact wpOpIn_of rfl rfl (wpW_val (r_move (.tmp 9) rfl (hP.out 9 (dm_out (by kernel_rfl)))) ⟨_, rfl, hkp 3 72 _ (by decide) (by decide) (by decide) (by decide) (by decide) (by decide) (by decide) (by decide) (by decide) (by decide) (by decide), trivial, (fun h => by simp at h), .inr (.inr (.inr (.inr (.inr (rfl)))))⟩)
                · obtain rfl := Option.some.inj ho
                  exact wpOpIn_of rfl rfl (wpW_val ((run_sl_hi under25w size25w (.tmp 71) (.tmp 72) A n c k rfl (show slotv a (some 71) = .slice A n c from by have h := (hpre ⟨2, .data⟩ (by simp) rfl).2; simpa using h) (show slotv a (some 72) = .int .i64 (k : Int) from by have h := (hpre ⟨3, .data⟩ (by simp) rfl).2; simpa using h) HC.out).trans (by rw [HL2.out]; rfl)) ⟨_, rfl, hkp 4 73 _ (by decide) (by decide) (by decide) (by decide) (by decide) (by decide) (by decide) (by decide) (by decide) (by decide) (by decide), trivial, (fun h => by simp at h), .inr (.inr (.inr (.inr (.inr (rfl)))))⟩)
                · obtain rfl := Option.some.inj ho
                  have n8 := not_yet hcl 8 rfl ⟨5, .data⟩ (by simp) rfl hls
                  have n13 := not_yet hcl 13 rfl ⟨8, .data⟩ (by simp) rfl n8
                  have n15 := not_yet hcl 15 rfl ⟨13, .data⟩ (by simp) rfl n13
                  have h0 := (hpre ⟨0, .data⟩ (by simp) rfl).1
                  obtain ⟨b, e0, hb0, hB0⟩ := hS3 h0 hls
                  obtain ⟨Ah', hq1, hq2, -⟩ := sl_cut2 (k := 0) (h := k) hsl6 (Nat.zero_le k) HK.out
                  rw [hq1.symm.trans HL2.out, List.drop_zero] at hq2
                  obtain ⟨A', c', w7, hrun, ho7, hg7, -⟩ := run_app (ty := 22) Tryz.underlying22 info25p rfl (by omega) w6 wB.heap.size _ 0 [] (own_empty36 hb0 hB0) _ (vs.take k) hq2 (fun y hy => HVO.out y (List.mem_of_mem_take hy)) (by omega) (by rw [List.length_take]; have := HVL.out; omega) hz6
                  have hkl : (vs.take k).length = k := by rw [List.length_take]; have := HVL.out; have := HK.out; omega
                  rw [hkl, Nat.zero_add, List.nil_append] at ho7
                  rw [hkl, Nat.zero_add] at hrun
                  have hgb : ∀ r, (Value.slice (some ⟨b, 0, none⟩) 0 0).ownBlock = some r → r = b := fun r hr => by cases hr; rfl
                  refine wpOpIn_of rfl rfl (wpW_val (r_app (.tmp 69) (.tmp 73) 22 rfl e0 (show slotv a (some 73) = .slice Ah k ch from by have h := (hpre ⟨4, .data⟩ (by simp) rfl).2; simpa using h) hrun) ⟨_, rfl, ⟨?_, ?_, ?_, ?_, ?_, ?_, ?_⟩, trivial, (fun h => by simp at h), .inr (.inl rfl)⟩)
                  · exact ⟨hg7.os.trans hS1.os, hg7.tape.trans hS1.tape, hg7.output.trans hS1.output, Nat.le_trans hS1.size hg7.size, fun q hq hx => (hg7.block q (Nat.lt_of_lt_of_le hq hS1.size) fun e => by have := hgb q e.symm; omega).trans (hS1.block q hq hx)⟩
                  · intro h; exact (hg7.block xb hxl fun e => by have := hgb xb e.symm; omega).trans (hS2 (by simpa using h))
                  · intro _ h'; simp at h'
                  · intro h h'; obtain ⟨b4, e1, hb, hB⟩ := hS4 (by simpa using h) (by simpa using h')
                    refine ⟨b4, (slotv_put_ne (a := a) (s := 74) (t := 76) (by decide)).trans e1, hb, (hg7.block b4 (Array.getElem?_eq_some_iff.1 hB).1 fun e => ?_).trans hB⟩
                    have := hgb b4 e.symm
                    subst this
                    rw [hB0] at hB
                    simp at hB
                  · intro _ _; exact ⟨A', c', slotv_same (by rw [hasz]; decide), ho7⟩
                  · intro h; simp [n8] at h
                  · intro h; simp [n13] at h
                · obtain rfl := Option.some.inj ho
                  exact wpOpIn_of rfl rfl (wpW_val (r_move (.tmp 8) rfl (hP.out 8 (dm_out (by kernel_rfl)))) ⟨_, rfl, hkp 6 75 _ (by decide) (by decide) (by decide) (by decide) (by decide) (by decide) (by decide) (by decide) (by decide) (by decide) (by decide), trivial, (fun h => by simp at h), .inr (.inr (.inr (.inr (.inr (rfl)))))⟩)
                · obtain rfl := Option.some.inj ho
                  have n8 := not_yet hcl 8 rfl ⟨7, .data⟩ (by simp) rfl hls
                  have n13 := not_yet hcl 13 rfl ⟨8, .data⟩ (by simp) rfl n8
                  have n15 := not_yet hcl 15 rfl ⟨13, .data⟩ (by simp) rfl n13
                  refine wpOpIn_of rfl rfl (wpW_val (r_bs25_1 (.tmp 75) A8 lx c8 rfl (show slotv a (some 75) = .slice A8 lx c8 from by have h := (hpre ⟨6, .data⟩ (by simp) rfl).2; simpa using h)) ⟨_, rfl, ⟨?_, ?_, ?_, ?_, ?_, ?_, ?_⟩, trivial, (fun h => by simp at h), .inr (.inr (.inl rfl))⟩)
                  · exact hS1.trans (BelX.of_below (hal _))
                  · intro h; exact ((hal _).block xb hxl).trans (hS2 (by simpa using h))
                  · intro h h'; obtain ⟨b, e1, hb, hB⟩ := hS3 (by simpa using h) (by simpa using h')
                    exact ⟨b, (slotv_put_ne (a := a) (s := 76) (t := 69) (by decide)).trans e1, hb, ((hal _).block b (Array.getElem?_eq_some_iff.1 hB).1).trans hB⟩
                  · intro _ _; exact ⟨w6.heap.size, slotv_same (by rw [hasz]; decide), hz6, heap_alloc_new w6 _⟩
                  · intro h h'; obtain ⟨A1, c1, e1, hw⟩ := hS5 (by simpa using h) (by simpa using h')
                    exact ⟨A1, c1, (slotv_put_ne (a := a) (s := 76) (t := 74) (by decide)).trans e1, owns_below hw (hal _)⟩
                  · intro h; simp [n8] at h
                  · intro h; simp [n13] at h
                · obtain rfl := Option.some.inj ho
                  have n13 := not_yet hcl 13 rfl ⟨8, .data⟩ (by simp) rfl hls
                  have n15 := not_yet hcl 15 rfl ⟨13, .data⟩ (by simp) rfl n13
                  have h5 := (hpre ⟨5, .data⟩ (by simp) rfl).1
                  have h7 := (hpre ⟨7, .data⟩ (by simp) rfl).1
                  have h0 : ls 0 = true := hcl 5 _ rfl h5 ⟨0, .data⟩ (by simp) rfl
                  obtain ⟨A1, c1, e5, ho5⟩ := hS5 h5 hls
                  obtain ⟨b, e7, hb7, hB7⟩ := hS4 h7 hls
                  obtain ⟨A', c', w7, hrun, ho7, hg7, -⟩ := run_push_at (t := 22) (ty := 22) Tryz.underlying22 info25p rfl (by omega) w6 wB.heap.size _ k _ ho5 (.slice A8 lx c8) rfl (by have := HVL.out; have := HK.out; omega) hz6 b (cell_one hB7)
                  have hgb : ∀ r, (Value.slice A1 k c1).ownBlock = some r → wB.heap.size ≤ r := fun r hr => (owns_block ho5 r hr).1
                  refine wpOpIn_of rfl rfl (wpW_val (r_app (.tmp 74) (.tmp 76) 22 rfl e5 e7 hrun) ⟨_, rfl, ⟨?_, ?_, ?_, ?_, ?_, ?_, ?_⟩, trivial, (fun h => by simp at h), .inr (.inr (.inr (.inl rfl)))⟩)
                  · exact ⟨hg7.os.trans hS1.os, hg7.tape.trans hS1.tape, hg7.output.trans hS1.output, Nat.le_trans hS1.size hg7.size, fun q hq hx => (hg7.block q (Nat.lt_of_lt_of_le hq hS1.size) fun e => by have := hgb q e.symm; omega).trans (hS1.block q hq hx)⟩
                  · intro h; exact (hg7.block xb hxl fun e => by have := hgb xb e.symm; omega).trans (hS2 (by simpa using h))
                  · intro _ h'; simp [h5] at h'
                  · intro _ h'; simp at h'
                  · intro _ h'; simp at h'
                  · intro _ _; exact ⟨A', c', slotv_same (by rw [hasz]; decide), ho7⟩
                  · intro h; simp [n13] at h
                · obtain rfl := Option.some.inj ho
                  exact wpOpIn_of rfl rfl (wpW_val (r_fld (.tmp 6) _ rfl (hP.out 6 (dm_out (by kernel_rfl))) (fld27_1 xb _)) ⟨_, rfl, hkp 9 78 _ (by decide) (by decide) (by decide) (by decide) (by decide) (by decide) (by decide) (by decide) (by decide) (by decide) (by decide), trivial, (fun h => by simp at h), .inr (.inr (.inr (.inr (.inr (rfl)))))⟩)
                · obtain rfl := Option.some.inj ho
                  have n12 := not_yet hcl 12 rfl ⟨10, .data⟩ (by simp) rfl hls
                  have n13 := not_yet hcl 13 rfl ⟨12, .data⟩ (by simp) rfl n12
                  have n15 := not_yet hcl 15 rfl ⟨13, .data⟩ (by simp) rfl n13
                  exact wpOpIn_of rfl rfl (wpW_val (r_ld25 (.tmp 78) ⟨xb, 1, none⟩ rfl (show slotv a (some 78) = .pointer (some ⟨xb, 1, none⟩) from by have h := (hpre ⟨9, .data⟩ (by simp) rfl).2; simpa using h) (cell_of2 (hS2 n15)).2) ⟨_, rfl, hkp 10 79 _ (by decide) (by decide) (by decide) (by decide) (by decide) (by decide) (by decide) (by decide) (by decide) (by decide) (by decide), trivial, (fun h => by simp at h), .inr (.inr (.inr (.inr (.inr (rfl)))))⟩)
                · obtain rfl := Option.some.inj ho
                  exact wpOpIn_of rfl rfl (wpW_val (r_move (.tmp 9) rfl (hP.out 9 (dm_out (by kernel_rfl)))) ⟨_, rfl, hkp 11 80 _ (by decide) (by decide) (by decide) (by decide) (by decide) (by decide) (by decide) (by decide) (by decide) (by decide) (by decide), trivial, (fun h => by simp at h), .inr (.inr (.inr (.inr (.inr (rfl)))))⟩)
                · obtain rfl := Option.some.inj ho
                  exact wpOpIn_of rfl rfl (wpW_val ((run_sl_lo under25w size25w (.tmp 79) (.tmp 80) A n c k rfl (show slotv a (some 79) = .slice A n c from by have h := (hpre ⟨10, .data⟩ (by simp) rfl).2; simpa using h) (show slotv a (some 80) = .int .i64 (k : Int) from by have h := (hpre ⟨11, .data⟩ (by simp) rfl).2; simpa using h) HK.out).trans (by rw [HL1.out]; rfl)) ⟨_, rfl, hkp 12 81 _ (by decide) (by decide) (by decide) (by decide) (by decide) (by decide) (by decide) (by decide) (by decide) (by decide) (by decide), trivial, (fun h => by simp at h), .inr (.inr (.inr (.inr (.inr (rfl)))))⟩)
                · obtain rfl := Option.some.inj ho
                  have n15 := not_yet hcl 15 rfl ⟨13, .data⟩ (by simp) rfl hls
                  have h8 := (hpre ⟨8, .data⟩ (by simp) rfl).1
                  have h5 : ls 5 = true := hcl 8 _ rfl h8 ⟨5, .data⟩ (by simp) rfl
                  obtain ⟨A1, c1, e8, ho8⟩ := hS6 h8 hls
                  obtain ⟨Al', hq1, hq2, -⟩ := sl_cut2 (k := k) (h := n) hsl6 HK.out (Nat.le_refl n)
                  rw [← HNK.out] at hq1 hq2
                  rw [hq1.symm.trans HL1.out] at hq2
                  rw [List.take_of_length_le (by rw [HVL.out.1]; exact Nat.le_refl _)] at hq2
                  obtain ⟨A', c', w7, hrun, ho7, hg7, -⟩ := run_app (ty := 22) Tryz.underlying22 info25p rfl (by omega) w6 wB.heap.size _ (k + 1) _ ho8 _ (vs.drop k) hq2 (fun y hy => HVO.out y (List.mem_of_mem_drop hy)) (by have := HVL.out; have := HK.out; omega) (by rw [List.length_drop]; have := HVL.out; omega) hz6
                  have hkl : k + 1 + (vs.drop k).length = n + 1 := by rw [List.length_drop]; have := HVL.out; have := HK.out; omega
                  rw [hkl] at hrun ho7
                  have hgb : ∀ r, (Value.slice A1 (k + 1) c1).ownBlock = some r → wB.heap.size ≤ r := fun r hr => (owns_block ho8 r hr).1
                  refine wpOpIn_of rfl rfl (wpW_val (r_app (.tmp 77) (.tmp 81) 22 rfl e8 (show slotv a (some 81) = .slice Al nk cl from by have h := (hpre ⟨12, .data⟩ (by simp) rfl).2; simpa using h) hrun) ⟨_, rfl, ⟨?_, ?_, ?_, ?_, ?_, ?_, ?_⟩, trivial, (fun h => by simp at h), .inr (.inr (.inr (.inr (.inl rfl))))⟩)
                  · exact ⟨hg7.os.trans hS1.os, hg7.tape.trans hS1.tape, hg7.output.trans hS1.output, Nat.le_trans hS1.size hg7.size, fun q hq hx => (hg7.block q (Nat.lt_of_lt_of_le hq hS1.size) fun e => by have := hgb q e.symm; omega).trans (hS1.block q hq hx)⟩
                  · intro h; exact (hg7.block xb hxl fun e => by have := hgb xb e.symm; omega).trans (hS2 (by simpa using h))
                  · intro _ h'; simp [h5] at h'
                  · intro _ h'; simp [h8] at h'
                  · intro _ h'; simp [h8] at h'
                  · intro _ h'; simp at h'
                  · intro _; exact ⟨A', c', slotv_same (by rw [hasz]; decide), ho7, fun h => by simp [n15] at h⟩
                · obtain rfl := Option.some.inj ho
                  exact wpOpIn_of rfl rfl (wpW_val (r_fld (.tmp 6) _ rfl (hP.out 6 (dm_out (by kernel_rfl))) (fld27_1 xb _)) ⟨_, rfl, hkp 14 83 _ (by decide) (by decide) (by decide) (by decide) (by decide) (by decide) (by decide) (by decide) (by decide) (by decide) (by decide), trivial, (fun h => by simp at h), .inr (.inr (.inr (.inr (.inr (rfl)))))⟩)
                · obtain rfl := Option.some.inj ho
                  have h13 := (hpre ⟨13, .data⟩ (by simp) rfl).1
                  have h8 : ls 8 = true := hcl 13 _ rfl h13 ⟨8, .data⟩ (by simp) rfl
                  have h5 : ls 5 = true := hcl 8 _ rfl h8 ⟨5, .data⟩ (by simp) rfl
                  obtain ⟨A1, c1, e13, ho13, -⟩ := hS7 h13
                  have hf : w6.frozen? ⟨xb, 1, none⟩ = false := frozen_row (hS2 hls) 1
                  have hg7 : w6.grownBy (w6.setCell ⟨xb, 1, none⟩ (.slice A1 (n + 1) c1)) (some xb) := grown_setCell w6 xb 1 _
                  refine wpOpIn_of rfl rfl (wpW_skip (r_store1 22 (.tmp 83) (.tmp 82) ⟨xb, 1, none⟩ _ (.slice A1 (n + 1) c1) rfl (show slotv a (some 83) = .pointer (some ⟨xb, 1, none⟩) from by have h := (hpre ⟨14, .data⟩ (by simp) rfl).2; simpa using h) e13 rfl (cell_of2 (hS2 hls)).2 hf (st25 _ _ _ _ _ (cell_of2 (hS2 hls)).2 hf)) ⟨undef, rfl, ⟨?_, ?_, ?_, ?_, ?_, ?_, ?_⟩, trivial, (fun _ => rfl), .inr (.inr (.inr (.inr (.inr (rfl)))))⟩)
                  · exact hS1.trans (BelX.of_grown hg7 fun r hr => by cases hr; rfl)
                  · intro h; simp at h
                  · intro _ h'; simp [h5] at h'
                  · intro _ h'; simp [h8] at h'
                  · intro _ h'; simp [h8] at h'
                  · intro _ h'; simp [h13] at h'
                  · intro _; refine ⟨A1, c1, e13, owns_keep ho13 fun r hr => hg7.block r (owns_lt ho13 hr) fun e => ?_, fun _ => (heap_set5 (hS2 hls)).trans rfl⟩
                    cases e
                    have := (owns_block ho13 _ hr).1
                    omega
              · intro ls a w6 hall hS hP hsl
                obtain ⟨hS1, -, -, -, -, -, hS7⟩ := hS
                obtain ⟨A3, c3, -, ho3, hB3⟩ := hS7 (hall 13 (by decide))
                have HB3 := Lib.hid (hB3 (hall 15 (by decide)))
                have HO3 := Lib.hid ho3
                have HX3 := Lib.hid hS1
                obtain ⟨vs2, hvs, hfr⟩ := hP.frame 85 rfl
                clear hsl hP hall hvs hS1 hS7 hB3 ho3
                subst hfr
                have hno : ∀ n : Nat, ((none : Option Nat) == some n) = false := fun _ => rfl
                simp only [hno, List.range, List.range.loop, List.map_cons, List.map_nil, List.any_cons, List.any_nil, Nat.reduceAdd, Nat.reduceBEq, Nat.reduceLT, Option.some_beq_some, Bool.or_false, if_true, if_false, List.getD_cons_zero, List.getD_cons_succ, Bool.or_true, Bool.false_eq_true]
                have hb9 := HBW5.out.trans HX3.out
                have HT9 : Hid (TabS (Fx w.heap.size xb rb w6) w6 (.slice A3 (n + 1) c3) (cleanTo rels (i + 1))) := Lib.hid (by
                  rw [HN2.out]
                  refine ⟨vs.take k ++ [.slice A8 lx c8] ++ vs.drop k, fun W ha => sl_of_owns (owns_keep HO3.out fun r hr => ha r ⟨⟨Nat.le_trans (Nat.le_trans HBA.out.size (Nat.le_trans HB5.out.size HBW5.out.size)) (owns_block HO3.out r hr).1, owns_lt HO3.out hr⟩, ?_, ?_⟩), ?_⟩
                  · intro e; have := (owns_block HO3.out r hr).1; have := HXBB.out.1; omega
                  · intro e; have := (owns_block HO3.out r hr).1; have := HXBB.out.2; omega
                  · exact rows_put (HVR.out.keep (Fx.ag hb9) fun q hq => ⟨⟨hq.1.1, Nat.lt_of_lt_of_le hq.1.2 hb9.size⟩, hq.2⟩) ((HXW.out.keep (Fx.ag hb9)).mono fun q hq => ⟨⟨hq.1.1, Nat.lt_of_lt_of_le hq.1.2 hb9.size⟩, hq.2⟩) (by rw [← HLN.out]; exact HK0.out))
                have HB9 := Lib.hid (HB5.out.trans hb9)
                clear hb9 HX3 HO3
                go_wp2_with fail
                go_roundw
                case rel => exact ⟨i + 1, by go_num, by omega, Lib.hid ⟨A3, c3, by rw [HLEN.out]; exact HB3.out, by rw [HLEN.out]; exact HT9.out, HB9.out⟩⟩
                case measure => simp [intOf]; omega
    · obtain rfl : i = rels.length := by omega
      obtain ⟨hp1, hp2, hp3, hp4⟩ := HPP.out wr HBL.out
      rw [← HCN.out] at HBX0 HTS0
      have HB9 := Lib.hid hp4
      rw [← HRE.out] at hp2
      have HX2 := Lib.hid hp2
      have x1 := (cell_of2 hp1).2
      have HTX : Hid (TabI w.heap.size wr.heap.size (wr.setRow rb #[.int .i64 g, .slice A (cleanL rels).length c]) (.slice A (cleanL rels).length c) (cleanL rels)) := Lib.hid (TabS.mono (HTS0.out.keep (Fx.res (cs := #[.int .i64 g, .slice A (cleanL rels).length c]))) fun _ hk => hk.1)
      clear hp1 hp2 hp3 hp4 HPP HTS0 HBL
      go_wp2_with ((with_reducible refine wpList_sel 84 ?_); refine wpList_val rfl (r_loadAt 24 (.tmp 6) _ _ rfl rfl (load40 HBX0.out)) ?_; refine wpList_skip rfl (r_store40 (.tmp 2) (.tmp 84) rfl (w.heap.size + 1) zero40 #[.int .i64 g, .slice A (cleanL rels).length c] rfl rfl (by rw [← HRE.out]; exact HX2.out) rfl rfl (by kernel_rfl)) ?_)
      go_wp2_with fail
      try simp only [Exit.inBlock, Exit.then]
      refine bodyPost_ret (results_40_tmp (p := 2) (q := 3) rfl _ _ (w.heap.size + 1) #[.int .i64 g, .slice A (cleanL rels).length c] (.int .i64 0) rfl rfl (setRow_heap _ _ _ _ _ _ (by rw [← HRE.out]; exact HX2.out)) rfl) rfl ⟨⟨A, c, rfl, ?_⟩, below_setRow HB9.out (Nat.le_succ _) _⟩
      rw [← HRE.out]
      have hsz : (wr.setRow rb #[.int .i64 g, .slice A (cleanL rels).length c]).heap.size = wr.heap.size := setRow_size _ _ _
      rw [hsz]
      exact HTX.out
end Go.Proofs
