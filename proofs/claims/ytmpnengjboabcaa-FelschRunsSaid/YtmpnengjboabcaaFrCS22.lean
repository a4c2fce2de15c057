/- The reference of Felsch's strategy: deduce (printed by genY8.py); The reference of Felsch's strategy: open. -/
import Derived.Test.YtmpnengjboabcaaFrCS20
import Derived.Test.YtmpnengjboabcaaFrCS21
import Derived.Deep.WholeRow
namespace Go.Proofs
open Go.RowKit Go.Shelf Go.Proofs.Ct Go.Maps
theorem sub_litY (w : World) (i j z : Int) (h : i - j = z) (hz : -9223372036854775808 ≤ z ∧ z ≤ 9223372036854775807) : (binOp .sub 3 (.int .i64 i) (.int .i64 j)).run Try.prog w = .ok (.int .i64 z) w := by
  subst h
  simp [go_sem, IntWalk.i64_in _ hz]
theorem r_subY {o : Oper} {a : Act} {w : World} (x : Operand) (i j z : Int) (h : i - j = z) (hz : -9223372036854775808 ≤ z ∧ z ≤ 9223372036854775807) (ho : o.op = .binOp .sub 3 x (.const (.int .i64 j)) 3) (hx : a.eval x = .int .i64 i) : (execOp a.eval o).run Try.prog w = .ok (.value (.int .i64 z)) w := by
  have h := sub_litY w i j z h hz
  have hc : a.eval (.const (.int .i64 j)) = .int .i64 j := rfl
  unfold execOp
  have hg : (eqGuard BinOp.sub 3 x (.const (.int .i64 j)) (.int .i64 i) (.int .i64 j)).run Try.prog w = .ok () w := rfl
  simp only [ho, hx, hc, Sem.run_bind, hg, h, Result.andThen_ok]
  rfl
theorem fld169_3 (b : Nat) (w : World) : (Instr.fieldAt 169 (.pointer (some ⟨b, 0, none⟩)) 3).run Try.prog w = .ok (.pointer (some ⟨b, 3, none⟩)) w := by kernel_rfl
theorem fld169_4 (b : Nat) (w : World) : (Instr.fieldAt 169 (.pointer (some ⟨b, 0, none⟩)) 4).run Try.prog w = .ok (.pointer (some ⟨b, 4, none⟩)) w := by kernel_rfl
theorem agg98 (w : World) : (isAgg 98).run Try.prog w = .ok false w := by kernel_rfl
theorem agg31 (w : World) : (isAgg 31).run Try.prog w = .ok false w := by kernel_rfl
theorem agg167 (w : World) : (isAgg 167).run Try.prog w = .ok false w := by kernel_rfl
theorem under167 : Try.prog.underlying 167 = some (.slice 31) := by kernel_rfl
theorem size31 (w : World) : (sizeOf 31).run Try.prog w = .ok 1 w := by kernel_rfl
theorem call155 (args : Array Value) (w : World) : (callFunc 155 args).run Try.prog w = .ok (.enter 155 args) w := enters_of Try.func155 (by kernel_rfl) rfl args w
theorem idx_sl98 (g m c i : Nat) (hi : i < m) (w : World) : (Instr.indexAt 98 (.slice (some ⟨g, 0, none⟩) m c) (.int .i64 (i : Int))).run Try.prog w = .ok (.pointer (some ⟨g, i * 2, none⟩)) w := by
  have h1 : (0 : Int) ≤ (i : Int) ∧ (i : Int) < (m : Int) := ⟨by omega, by omega⟩
  have h2 := Addr.add_mid g 0 (i * 2)
  rw [Nat.zero_add] at h2
  simp [Instr.indexAt, asIntOf, run_underlying Try.underlying98, h2, hi]
section
variable {o : Oper} {a : Act} {w : World}
theorem r_load109 (x : Operand) (g k : Nat) (z c : Int) (ho : o.op = .load 109 x) (hx : a.eval x = .pointer (some ⟨g, k, none⟩)) (h0 : w.cell? ⟨g, k, none⟩ = some (.int .i64 z)) (h1 : w.cell? ⟨g, k + 1, none⟩ = some (.int .i64 c)) : (execOp a.eval o).run Try.prog w = .ok (.value (.agg #[.int .i64 z, .int .i64 c])) w := by
  have hr : w.rangeAt g k [.int .i64 z, .int .i64 c] := fun j v hj => by
    match j, hj with
    | 0, hj => rw [Nat.add_zero, h0]; simpa using hj
    | 1, hj => rw [h1]; simpa using hj
  unfold execOp
  simp only [ho, hx, Sem.run_bind, run_loadAt_mid (P := Try.prog) w g k 109 [.int .i64 z, .int .i64 c] _ hr Try.underlying109 rfl (by kernel_rfl), Result.andThen_ok]
  rfl
theorem alloc109 (w : World) : (Instr.alloc 109 true (.tuple #[])).run Try.prog w = .ok (.pointer (some ⟨w.heap.size, 0, none⟩)) (w.alloc (.cells #[.int .i64 0, .int .i64 0] 109)) := by kernel_rfl
theorem r_alloc109 (ho : o.op = .alloc 109) : (execOp a.eval o).run Try.prog w = .ok (.value (.pointer (some ⟨w.heap.size, 0, none⟩))) (w.alloc (.cells #[.int .i64 0, .int .i64 0] 109)) := by
  have hb := alloc109 w
  unfold execOp
  simp only [ho, Sem.run_bind, hb, Result.andThen_ok]
  rfl
theorem info109s : (Try.prog.info? 109).map (·.size) = some 2 := by kernel_rfl
theorem r_store109 (x y : Operand) (ho : o.op = .store 109 x y) (g : Nat) (old c' : Array Value) (hx : a.eval x = .pointer (some ⟨g, 0, none⟩)) (hy : a.eval y = .agg c') (hg : w.heap[g]? = some (.cells old 109 (0, 0)))
    (hi : c'.size = 2) (hoo : old.size = 2) (h1 : c'.all (·.oneCell') = true) : (execOp a.eval o).run Try.prog w = .ok .skip (w.setRow g c') := by
  unfold execOp
  simp only [ho, hx, hy, Instr.storeAt, Instr.sureAddr, Sem.run_bind, Sem.run_pure, Result.andThen_ok, run_storeVar_row w g 109 109 old c' hg (by rw [hi]; exact info109s) (by rw [hi, hoo]) h1]
theorem r_slice98Y (x y : Operand) (g n c h : Nat) (ho : o.op = .slice 98 x none (some y) none) (hx : a.eval x = .slice (some ⟨g, 0, none⟩) n c) (hy : a.eval y = .int .i64 (h : Int)) (hc : h ≤ c) : (execOp a.eval o).run Try.prog w = .ok (.value (.slice (some ⟨g, 0, none⟩) h c)) w := by
  have h1 := r_slice_hi98 (o := o) (a := a) (w := w) x y _ n c h ho hx hy hc
  rwa [sliced0_98] at h1
theorem st98 (ad : Addr) (u : Value) (A : Option Addr) (m c : Nat) (hc : w.cell? ad = some u) (hf : w.frozen? ad = false) : (Instr.storeAt 98 (.pointer (some ad)) (.slice A m c)).run Try.prog w = .ok () (w.setCell ad (.slice A m c)) := by
  simp [Instr.storeAt, Instr.sureAddr, go_sem, hc, hf]
end
/-- the pair on top -/
theorem StGB.pairs {K : Nat → Prop} {T : TypeId} {wv : Value} {bl cs : Nat → Nat} {base b lim : Nat} {w : World} {f : FS} (hS : StGB K T wv bl cs base b lim w f) : ∃ A c, w.cell? ⟨b, 3, none⟩ = some (.slice A f.k.length c) ∧ w.frozen? ⟨b, 3, none⟩ = false ∧ f.k.length ≤ c ∧ (0 < f.k.length → ∃ gk, A = some ⟨gk, 0, none⟩ ∧
    w.cell? ⟨gk, (f.k.length - 1) * 2, none⟩ = some (.int .i64 (f.top.1 : Int)) ∧ w.cell? ⟨gk, (f.k.length - 1) * 2 + 1, none⟩ = some (.int .i64 (f.top.2 : Int))) := by
  obtain ⟨hb, P, vr, vp, vq, vk, hB, hC, hK, hF⟩ := hS
  obtain ⟨A, c, rfl⟩ := owns_form2 hK
  refine ⟨A, c, hB.cells.2.2.2.2.2.1, hB.frozen 3, ?_, fun h0 => ?_⟩
  · obtain ⟨-, ho⟩ := hK
    rcases ho with ⟨-, h0⟩ | ⟨g, cap, cur, e, -, -, h1, -⟩
    · omega
    · obtain ⟨-, -, rfl⟩ := Value.slice.inj e
      exact h1
  · obtain ⟨gk, c', e, -, -, -, hcc⟩ := hK.cell h0
    obtain ⟨rfl, -, -⟩ := Value.slice.inj e
    have h1 := hcc (f.k.length - 1) (by omega)
    have h2 : f.top = f.k.getD (f.k.length - 1) (0, 0) := by
      unfold FS.top
      rw [List.getLastD_eq_getLast?, List.getLast?_eq_getElem?, List.getD_eq_getElem?_getD]
    rw [h2]
    exact ⟨gk, rfl, h1.1, h1.2⟩
/-- the pair on top is taken -/
theorem StGB.popd {K : Nat → Prop} {T : TypeId} {wv : Value} {bl cs : Nat → Nat} {base b lim : Nat} {w : World} {f : FS} (hT : TyF T) (hS : StGB K T wv bl cs base b lim w f) {A : Option Addr} {c : Nat} (hc : w.cell? ⟨b, 3, none⟩ = some (.slice A f.k.length c)) :
    StGB K T wv bl cs base b lim (w.setCell ⟨b, 3, none⟩ (.slice A (f.k.length - 1) c)) f.pop ∧ Keeps base K w (w.setCell ⟨b, 3, none⟩ (.slice A (f.k.length - 1) c)) := by
  obtain ⟨hb, P, vr, vp, vq, vk, hB, hC, hK, hF⟩ := hS
  have h5 := hB.cells.2.2.2.2.2.1
  rw [hc] at h5
  cases h5
  have hK1 := hK.take (k := f.k.length - 1) (by omega)
  have hd : f.k.take (f.k.length - 1) = f.k.dropLast := (List.dropLast_eq_take ..).symm
  rw [hd] at hK1
  refine ⟨⟨hb, P, vr, vp, vq, _, (hB.upd3 (s' := f.pop.s) _ rfl rfl), hC.other hB.box hT.a hT.b 3 _, hK1.other hB.box hT.c 3 _, ⟨fun k hk => by rw [World.size_setCell]; exact hF.lt k hk, hF.box, hF.r, hF.p, hF.q, fun k hk => hF.k k (by cases A <;> exact hk), hF.row⟩⟩, (Keeps.refl _ _ _).setCell hb hF.box _⟩
def pairsG (b : Nat) (w : World) : Nat := match w.cell? ⟨b, 3, none⟩ with
  | some (.slice _ n _) => n
  | _ => 0
/-- pot, counted in memory -/
def potG (b m : Nat) (bl : Nat → Nat) (w : World) : Nat := liveIn b w * (3 * (rowsG b w * m) + 1) + 2 * ((List.range (rowsG b w)).map fun r => (List.range m).countP fun c => negIn w (bl r) c).sum + pairsG b w
theorem StGB.potG {K : Nat → Prop} {T : TypeId} {wv : Value} {bl cs : Nat → Nat} {g base b lim : Nat} {w : World} {f : FS} (hI : Inv g f.s) (hS : StGB K T wv bl cs base b lim w f) : potG b (2 * g) bl w = pot (2 * g) f := by
  have hn := StG.rowsG ⟨bl, cs, hS⟩
  obtain ⟨A, c, hc, -⟩ := hS.pairs
  have hl : liveIn b w = f.s.live.toNat := by
    obtain ⟨-, P, vr, vp, vq, vk, hB, -⟩ := hS
    unfold liveIn
    rw [hB.cells.2.2.2.2.2.2.1]
  have hp : pairsG b w = f.k.length := by
    unfold pairsG
    rw [hc]
  have hu : ((List.range f.s.t.length).map fun r => (List.range (2 * g)).countP fun c => negIn w (bl r) c) = (List.range f.s.t.length).map fun r => (List.range (2 * g)).countP fun c => decide (f.s.t.at r c < 0) := by
    refine List.map_congr_left fun r hr => List.countP_congr fun c hc => ?_
    obtain ⟨gr, cr, -, -, h3⟩ := hS.at_ hI (List.mem_range.1 hr) (List.mem_range.1 hc)
    unfold negIn
    rw [h3]
  unfold Go.Proofs.potG Ct.pot
  rw [hn, hl, hp, hu, ← undT_range f.s.t fun r hr => hI.len r hr]
theorem StGB.wv_ {K : Nat → Prop} {T : TypeId} {wv : Value} {bl cs : Nat → Nat} {base b lim : Nat} {w : World} {f : FS} (hS : StGB K T wv bl cs base b lim w f) : w.cell? ⟨b, 4, none⟩ = some wv := by
  obtain ⟨-, P, vr, vp, vq, vk, hB, -⟩ := hS
  exact hB.cells.1
/-- the words of the columns, in memory -/
structure ColW (K : Nat → Prop) (base : Nat) (w : World) (m bw cw : Nat) (fm : Nat → Value) (ws : Nat → List W) : Prop where
  m16 : m ≤ cw
  at_ : ∀ c, c < m → ∀ W, Keeps base K w W → W.cell? ⟨bw, c, none⟩ = some (fm c) ∧ Tab W (fm c) (ws c)
set_option maxRecDepth 100000 in
set_option maxHeartbeats 4000000 in
theorem deduce152_any (K : Nat → Prop) (T : TypeId) (wv : Value) (bl cs : Nat → Nat) (g m base b lim : Nat) (hm : m = 2 * g) (w : World) (f : FS) (ws : Nat → List W) (fm : Nat → Value) (bw cw : Nat) (hT : TyF T) (hR : Fine g f) (hS : StGB K T wv bl cs base b lim w f) (hbw : base ≤ w.heap.size)
    (hwv : wv = .slice (some ⟨bw, 0, none⟩) m cw) (hC : ColW K base w m bw cw fm ws) (hl : ∀ c, c < m → ∀ j, j < (ws c).length → LOk g ((ws c).getD j [])) :
    Calls Try.prog 152 #[.pointer (some ⟨b, 0, none⟩)] w fun e w' => e = .returned (.tuple #[]) ∧ StGB K T wv bl cs base b lim w' (ded m ws f) ∧ Keeps base K w w' := by
  have HT := Lib.hid hT
  have HM := Lib.hid hm
  have HBW := Lib.hid hbw
  have HL : Hid (∀ c, c < 2 * g → ∀ j, j < (ws c).length → LOk g ((ws c).getD j [])) := Lib.hid (by rw [← hm]; exact hl)
  have HV : Hid (∀ c, c < m → ∀ W, Keeps base K w W → W.cell? ⟨bw, c, none⟩ = some (fm c) ∧ Tab W (fm c) (ws c)) := Lib.hid hC.at_
  have HWV := Lib.hid hwv
  have HREL : Hid (StGB K T wv bl cs base b lim w f ∧ Fine g f) := Lib.hid ⟨hS, hR⟩
  obtain ⟨F, hFe⟩ : ∃ F, ded m ws f = F := ⟨_, rfl⟩
  have HFE := Lib.hid hFe
  rw [hFe]
  have hm32 : m ≤ 32 := by have := hR.g16; omega
  clear hT hbw hl hC hwv hS hR hFe hm
  go_enter Try.func152, Try.ntmps152
  go_wp2_with fail
  go_loopw [2] (fun _ wr => ∃ f1 : FS, Hid (StGB K T wv bl cs base b lim wr f1 ∧ Fine g f1) ∧ Hid (ded m ws f1 = F) ∧ Hid (Keeps base K w wr)) (fun _ wr => potG b m bl wr)
  case atStart => exact ⟨f, HREL, HFE, Lib.hid (Keeps.refl _ _ _)⟩
  case round =>
    clear HREL HFE
    obtain ⟨f1, HS, HF, HB⟩ := hrel
    have hk0 : (0 : Int) ≤ (f1.k.length : Int) := Int.natCast_nonneg _
    obtain ⟨hst, hfi⟩ := HS.out
    obtain ⟨A, ck, hp, hpf, hpc, hpt⟩ := hst.pairs
    have hkI : (f1.k.length : Int) ≤ 1000000000000 := by have := hfi.k; omega
    by_cases hlt : 0 < f1.k.length
    · obtain ⟨gk, rfl, ht1, ht2⟩ := hpt hlt
      have hne : f1.k ≠ [] := List.length_pos_iff.1 hlt
      obtain ⟨hz1, hc1⟩ := hfi.rest.kok _ (top_mem hne)
      obtain ⟨z, c, htop⟩ : ∃ z c, f1.top = (z, c) := ⟨_, _, rfl⟩
      rw [htop] at ht1 ht2 hz1 hc1
      simp only at ht1 ht2 hz1 hc1
      have hfp : Fine g f1.pop := hfi.pop
      have hcm : c < m := by rw [HM.out]; exact hc1
      obtain ⟨fA, hA⟩ : ∃ fA, scansF m f1.pop z (ws c) = fA := ⟨_, rfl⟩
      have hxA : FExt g f1.pop fA := by rw [← hA, HM.out]; exact scans_F (HL.out c hc1) hfp.rest hz1
      have hfA : Fine g fA := hfp.ext hxA
      have hnA : fA.s.t.length = f1.s.t.length := hxA.n
      have HSA : Hid (∀ W, StGB K T wv bl cs base b lim W f1.pop → Keeps base K w W → Calls Try.prog 155 #[.pointer (some ⟨b, 0, none⟩), .int .i64 (z : Int), fm c] W fun e w' => e = .returned (.tuple #[]) ∧ StGB K T wv bl cs base b lim w' fA ∧ Keeps base K W w') := Lib.hid fun W h1 h2 => by
        have := scans155_any K T wv bl cs g m base b lim z HM.out W f1.pop (fm c) (ws c) HT.out hfp h1 (Nat.le_trans HBW.out h2.size) (fun W' h => (HV.out c hcm W' (h2.trans h)).2) (HL.out c hc1) hz1
        rw [hA] at this
        exact this
      have hbA : ∀ c', c' < 2 * g → -1 ≤ fA.s.t.at z c' ∧ fA.s.t.at z c' < fA.s.t.length := fun c' h => hfA.rest.rest.inv.bd z (by rw [hnA]; exact hz1) c' h
      have HDS := Lib.hid (ded_step (fun c h => HL.out c h) hfi.rest hne)
      have HLESS := Lib.hid (dedStep_less (fun c h => HL.out c h) hfi.rest hne)
      have HPI : Hid (∀ W f2, Inv g f2.s → StGB K T wv bl cs base b lim W f2 → potG b m bl W = pot m f2) := Lib.hid fun W f2 h1 h2 => by
        have := h2.potG h1
        rwa [← HM.out] at this
      rw [← HM.out] at HDS HLESS
      have HPO := Lib.hid (HPI.out wr f1 hfi.rest.rest.inv hst)
      have hz0 : (0 : Int) ≤ (z : Int) := Int.natCast_nonneg _
      have hc0 : (0 : Int) ≤ (c : Int) := Int.natCast_nonneg _
      have hkpos : (0 : Int) < (f1.k.length : Int) := by omega
      have HTOP := Lib.hid htop
      have HAE := Lib.hid hA
      have HFA := Lib.hid hfA
      have HZL : Hid (z < fA.s.t.length) := Lib.hid (by rw [hnA]; exact hz1)
      have HBA := Lib.hid hbA
      have HC1 := Lib.hid hc1
      obtain ⟨n1, hn1⟩ : ∃ n1, f1.k.length - 1 = n1 := ⟨_, rfl⟩
      have HPD : Hid (∀ W, Below wr.heap.size wr W → StGB K T wv bl cs base b lim (W.setCell ⟨b, 3, none⟩ (.slice (some ⟨gk, 0, none⟩) n1 ck)) f1.pop ∧ Keeps base K wr (W.setCell ⟨b, 3, none⟩ (.slice (some ⟨gk, 0, none⟩) n1 ck)) ∧ W.cell? ⟨b, 3, none⟩ = some (.slice (some ⟨gk, 0, none⟩) f1.k.length ck) ∧ W.frozen? ⟨b, 3, none⟩ = false) := Lib.hid fun W hbl => by
        have hlb := World.block_lt_of_cell? wr _ hp
        have hp' := (hbl.cell (p := ⟨b, 3, none⟩) hlb).trans hp
        have h1 := (hst.below hbl).popd HT.out hp'
        rw [hn1] at h1
        exact ⟨h1.1, (Keeps.all hbl (Nat.le_trans HBW.out HB.out.size) hst.lt).trans h1.2, hp', (hbl.frozen (p := ⟨b, 3, none⟩) hlb).trans hpf⟩
      rw [hn1] at ht1 ht2
      have hn4 : n1 ≤ ck := by omega
      have hn1N : n1 < f1.k.length := by omega
      have hlg := World.block_lt_of_cell? wr _ ht1
      obtain ⟨w0, hw0⟩ : ∃ w0, w0 = wr.drew := ⟨_, rfl⟩
      have hbl0 : Below wr.heap.size wr w0 := by rw [hw0]; exact (Below.refl _ _).drew
      have HL1 : Hid (∀ W, W = w0 ∨ W = w0.alloc (.cells #[.int .i64 0, .int .i64 0] 109) → W.cell? ⟨b, 3, none⟩ = some (.slice (some ⟨gk, 0, none⟩) f1.k.length ck) ∧ W.cell? ⟨gk, n1 * 2, none⟩ = some (.int .i64 (z : Int)) ∧ W.cell? ⟨gk, n1 * 2 + 1, none⟩ = some (.int .i64 (c : Int))) := Lib.hid fun W hW => by
        have hbl : Below wr.heap.size wr W := by
          rcases hW with rfl | rfl
          · exact hbl0
          · exact hbl0.alloc hbl0.size _
        exact ⟨(HPD.out W hbl).2.2.1, (hbl.cell (p := ⟨gk, n1 * 2, none⟩) hlg).trans ht1, (hbl.cell (p := ⟨gk, n1 * 2 + 1, none⟩) hlg).trans ht2⟩
      have HAL : Hid (Below wr.heap.size wr (w0.alloc (.cells #[.int .i64 (z : Int), .int .i64 (c : Int)] 109)) ∧ (w0.alloc (.cells #[.int .i64 (z : Int), .int .i64 (c : Int)] 109)).heap[w0.heap.size]? = some (.cells #[.int .i64 (z : Int), .int .i64 (c : Int)] 109 (0, 0)) ∧ b ≠ w0.heap.size) := Lib.hid ⟨hbl0.alloc hbl0.size _, heap_alloc_new w0 _, by
        have := World.block_lt_of_cell? wr _ hp
        have := hbl0.size
        have h : b < wr.heap.size := by assumption
        omega⟩
      clear hst hfi hpc hpt hne hz1 hc1 htop hfp hxA hfA hnA hbA hlt hA hbl0 hlg
      have hN1 : (f1.k.length : Int) - 1 = (n1 : Int) := by omega
      generalize hN : f1.k.length = N at *
      go_upto_region 1 with fail
      refine (wpIn_wide (n := 3)).1 ?_
      refine wpIn_region_all (by kernel_rfl) 14 rfl (fun i => if i < 12 then some (11 + i) else if i = 12 then some 2 else none) (lex_of (by kernel_rfl)) (fun ls W => (ls 13 = false → W = w0 ∨ W = w0.alloc (.cells #[.int .i64 0, .int .i64 0] 109)) ∧ (ls 12 = false → ls 13 = false → W = w0) ∧ (ls 12 = true → ls 13 = false → W = w0.alloc (.cells #[.int .i64 0, .int .i64 0] 109)) ∧ (ls 13 = true → W = w0.alloc (.cells #[.int .i64 (z : Int), .int .i64 (c : Int)] 109)))
        (fun i v _ => v = ([.pointer (some ⟨b, 0, none⟩), .pointer (some ⟨b, 0, none⟩), .pointer (some ⟨b, 3, none⟩), .slice (some ⟨gk, 0, none⟩) N ck, .pointer (some ⟨b, 0, none⟩), .pointer (some ⟨b, 0, none⟩), .pointer (some ⟨b, 3, none⟩), .slice (some ⟨gk, 0, none⟩) N ck, .int .i64 (N : Int), .int .i64 (n1 : Int), .pointer (some ⟨gk, n1 * 2, none⟩), .agg #[.int .i64 (z : Int), .int .i64 (c : Int)], .pointer (some ⟨w0.heap.size, 0, none⟩), undef] : List Value).getD i undef) (fun _ _ _ => True) (dm_inj (by kernel_rfl)) (fun _ _ _ _ _ _ _ _ _ h => h) (dm_lt (n := 93) (by kernel_rfl)) ⟨fun _ => .inl hw0.symm, fun _ _ => hw0.symm, (fun h => by cases h), (fun h => by cases h)⟩ ?_ ?_
      · intro ls q o a w2 hq ho hS2 hls hcl hP hpre
        have hcases : q = 0 ∨ q = 1 ∨ q = 2 ∨ q = 3 ∨ q = 4 ∨ q = 5 ∨ q = 6 ∨ q = 7 ∨ q = 8 ∨ q = 9 ∨ q = 10 ∨ q = 11 ∨ q = 12 ∨ q = 13 := by
          have : q < 14 := hq
          omega
        rcases hcases with rfl | rfl | rfl | rfl | rfl | rfl | rfl | rfl | rfl | rfl | rfl | rfl | rfl | rfl
        · obtain rfl := Option.some.inj ho
          exact wpOpIn_of rfl rfl (wpW_val (r_move (.tmp 0) rfl (hP.out 0 (dm_out (by kernel_rfl)))) ⟨_, rfl, hS2, trivial, (fun h => by simp at h), rfl⟩)
        · obtain rfl := Option.some.inj ho
          exact wpOpIn_of rfl rfl (wpW_val (r_nil (.tmp 11) _ rfl (hpre ⟨0, .data⟩ (by simp) rfl).2) ⟨_, rfl, hS2, trivial, (fun h => by simp at h), rfl⟩)
        · obtain rfl := Option.some.inj ho
          exact wpOpIn_of rfl rfl (wpW_val (r_fld (.tmp 12) _ rfl (hpre ⟨1, .data⟩ (by simp) rfl).2 (fld169_3 b _)) ⟨_, rfl, hS2, trivial, (fun h => by simp at h), rfl⟩)
        · obtain rfl := Option.some.inj ho
          have h13 := not_yet hcl 13 rfl ⟨3, .phase⟩ (by simp) rfl hls
          exact wpOpIn_of rfl rfl (wpW_val (r_load1 98 agg98 (.tmp 13) ⟨b, 3, none⟩ rfl (hpre ⟨2, .data⟩ (by simp) rfl).2 (HL1.out _ (hS2.1 h13)).1) ⟨_, rfl, hS2, trivial, (fun h => by simp at h), rfl⟩)
        · obtain rfl := Option.some.inj ho
          exact wpOpIn_of rfl rfl (wpW_val (r_move (.tmp 0) rfl (hP.out 0 (dm_out (by kernel_rfl)))) ⟨_, rfl, hS2, trivial, (fun h => by simp at h), rfl⟩)
        · obtain rfl := Option.some.inj ho
          exact wpOpIn_of rfl rfl (wpW_val (r_nil (.tmp 15) _ rfl (hpre ⟨4, .data⟩ (by simp) rfl).2) ⟨_, rfl, hS2, trivial, (fun h => by simp at h), rfl⟩)
        · obtain rfl := Option.some.inj ho
          exact wpOpIn_of rfl rfl (wpW_val (r_fld (.tmp 16) _ rfl (hpre ⟨5, .data⟩ (by simp) rfl).2 (fld169_3 b _)) ⟨_, rfl, hS2, trivial, (fun h => by simp at h), rfl⟩)
        · obtain rfl := Option.some.inj ho
          have h13 := not_yet hcl 13 rfl ⟨7, .phase⟩ (by simp) rfl hls
          exact wpOpIn_of rfl rfl (wpW_val (r_load1 98 agg98 (.tmp 17) ⟨b, 3, none⟩ rfl (hpre ⟨6, .data⟩ (by simp) rfl).2 (HL1.out _ (hS2.1 h13)).1) ⟨_, rfl, hS2, trivial, (fun h => by simp at h), rfl⟩)
        · obtain rfl := Option.some.inj ho
          exact wpOpIn_of rfl rfl (wpW_val (r_len (.tmp 18) 98 (some ⟨gk, 0, none⟩) N ck Try.underlying98 rfl (hpre ⟨7, .data⟩ (by simp) rfl).2) ⟨_, rfl, hS2, trivial, (fun h => by simp at h), rfl⟩)
        · obtain rfl := Option.some.inj ho
          exact wpOpIn_of rfl rfl (wpW_val (r_subY (.tmp 19) (N : Int) 1 (n1 : Int) (by omega) (by omega) rfl (hpre ⟨8, .data⟩ (by simp) rfl).2) ⟨_, rfl, hS2, trivial, (fun h => by simp at h), rfl⟩)
        · obtain rfl := Option.some.inj ho
          exact wpOpIn_of rfl rfl (wpW_val (r_idx (.tmp 14) (.tmp 20) _ _ rfl (hpre ⟨3, .data⟩ (by simp) rfl).2 (hpre ⟨9, .data⟩ (by simp) rfl).2 (idx_sl98 gk N ck n1 hn1N _)) ⟨_, rfl, hS2, trivial, (fun h => by simp at h), rfl⟩)
        · obtain rfl := Option.some.inj ho
          have h13 := not_yet hcl 13 rfl ⟨11, .phase⟩ (by simp) rfl hls
          have hc := (HL1.out _ (hS2.1 h13)).2
          exact wpOpIn_of rfl rfl (wpW_val (r_load109 (.tmp 21) gk (n1 * 2) _ _ rfl (hpre ⟨10, .data⟩ (by simp) rfl).2 hc.1 hc.2) ⟨_, rfl, hS2, trivial, (fun h => by simp at h), rfl⟩)
        · obtain rfl := Option.some.inj ho
          have h13 : ls 13 = false := not_yet hcl 13 rfl ⟨12, .data⟩ (by simp) rfl hls
          have hW := hS2.2.1 hls h13
          subst hW
          exact wpOpIn_of rfl rfl (wpW_val (r_alloc109 rfl) ⟨_, rfl, ⟨fun _ => .inr rfl, (fun h => by simp at h), fun _ _ => rfl, fun h => absurd (show ls 13 = true from h) (by rw [h13]; simp)⟩, trivial, (fun h => by simp at h), rfl⟩)
        · obtain rfl := Option.some.inj ho
          have h12 : ls 12 = true := (hpre ⟨12, .data⟩ (by simp) rfl).1
          have hW := hS2.2.2.1 h12 hls
          subst hW
          exact wpOpIn_of rfl rfl (wpW_skip (r_store109 (.tmp 2) (.tmp 22) rfl w0.heap.size _ _ (hpre ⟨12, .data⟩ (by simp) rfl).2 (hpre ⟨11, .data⟩ (by simp) rfl).2 (heap_alloc_new w0 _) rfl rfl (by simp [Value.oneCell'])) ⟨undef, rfl, ⟨(fun h => by simp at h), (fun _ h => by simp at h), (fun _ h => by simp at h), fun _ => World.setRow_alloc_new _ _ _ _⟩, trivial, fun _ => rfl, rfl⟩)

      · intro ls a w9 hall hS2 hP hsl2
        have h13 : ls 13 = true := hall 13 (by decide)
        have hW := hS2.2.2.2 h13
        have hq2 := hsl2 12 (by decide)
        obtain ⟨vs, hvs, hfr⟩ := hP.frame 93 rfl
        have hv2 : vs 2 = .pointer (some ⟨w0.heap.size, 0, none⟩) := by
          rw [hvs]; exact hq2
        clear hsl2 hP hall h13 hvs hS2 HL1 hq2
        subst hfr
        dsimp only
        simp only [List.range, List.range.loop, List.map_cons, List.map_nil, List.any_cons, List.any_nil, Nat.reduceAdd, Nat.reduceBEq, Nat.reduceLT, Nat.reduceEqDiff, Option.some_beq_some, Bool.or_false, if_true, if_false, List.getD_cons_zero, List.getD_cons_succ]
        rw [hv2]
        clear hv2
        obtain ⟨hb9, hh9, hne9⟩ := HAL.out
        rw [← hW] at hb9 hh9
        have HH9 := Lib.hid hh9
        obtain ⟨w1, hw1⟩ : ∃ w1, w1 = w9.drew := ⟨_, rfl⟩
        have hb1 : Below wr.heap.size wr w1 := by rw [hw1]; exact hb9.drew
        obtain ⟨hs1, hk1, hp1, hp2⟩ := HPD.out w1 hb1
        have HP1 := Lib.hid hp1
        have HP2 := Lib.hid hp2
        have HS1 := Lib.hid hs1
        have HK1 := Lib.hid (HB.out.trans hk1)
        have hh1 : w1.heap[w0.heap.size]? = some (.cells #[.int .i64 (z : Int), .int .i64 (c : Int)] 109 (0, 0)) := by rw [hw1]; exact hh9
        have HHC : Hid ((w1.setCell ⟨b, 3, none⟩ (.slice (some ⟨gk, 0, none⟩) n1 ck)).cell? ⟨w0.heap.size, 0, none⟩ = some (.int .i64 (z : Int)) ∧ (w1.setCell ⟨b, 3, none⟩ (.slice (some ⟨gk, 0, none⟩) n1 ck)).cell? ⟨w0.heap.size, 1, none⟩ = some (.int .i64 (c : Int))) := Lib.hid (by
          rw [World.cell?_setCell_other _ _ _ _ (fun e => hne9 (by injection e)), World.cell?_setCell_other _ _ _ _ (fun e => hne9 (by injection e)), cell_of_row _ _ _ _ _ _ hh1, cell_of_row _ _ _ _ _ _ hh1]
          exact ⟨rfl, rfl⟩)
        clear HPD HAL hb9 hh9 hW hb1 hs1 hk1 hp1 hp2 hh1 hne9 HH9 hp hpf ht1 ht2
        generalize w0.heap.size = hx at *
        clear hw0 w0
        go_upto_region 2 with fail
        refine (wpIn_wide (n := 3)).1 ?_
        refine wpIn_region_all (by kernel_rfl) 15 rfl (fun i => if i < 14 then some (23 + i) else none) (lex_of (by kernel_rfl)) (fun ls W => W = bif ls 14 then w1.setCell ⟨b, 3, none⟩ (.slice (some ⟨gk, 0, none⟩) n1 ck) else w1)
          (fun i v _ => v = ([.pointer (some ⟨b, 0, none⟩), .pointer (some ⟨b, 0, none⟩), .pointer (some ⟨b, 0, none⟩), .pointer (some ⟨b, 3, none⟩), .slice (some ⟨gk, 0, none⟩) N ck, .pointer (some ⟨b, 0, none⟩), .pointer (some ⟨b, 0, none⟩), .pointer (some ⟨b, 3, none⟩), .slice (some ⟨gk, 0, none⟩) N ck, .int .i64 (N : Int), .int .i64 (n1 : Int), .slice (some ⟨gk, 0, none⟩) n1 ck, .pointer (some ⟨b, 0, none⟩), .pointer (some ⟨b, 3, none⟩), undef] : List Value).getD i undef) (fun _ _ _ => True) (dm_inj (by kernel_rfl)) (fun _ _ _ _ _ _ _ _ _ h => h) (dm_lt (n := 93) (by kernel_rfl)) hw1.symm ?_ ?_
        · intro ls q o a w2 hq ho hS2 hls hcl hP hpre
          have hcases : q = 0 ∨ q = 1 ∨ q = 2 ∨ q = 3 ∨ q = 4 ∨ q = 5 ∨ q = 6 ∨ q = 7 ∨ q = 8 ∨ q = 9 ∨ q = 10 ∨ q = 11 ∨ q = 12 ∨ q = 13 ∨ q = 14 := by
            have : q < 15 := hq
            omega
          rcases hcases with rfl | rfl | rfl | rfl | rfl | rfl | rfl | rfl | rfl | rfl | rfl | rfl | rfl | rfl | rfl
          · obtain rfl := Option.some.inj ho
            exact wpOpIn_of rfl rfl (wpW_val (r_move (.tmp 0) rfl (hP.out 0 (dm_out (by kernel_rfl)))) ⟨_, rfl, hS2, trivial, (fun h => by simp at h), rfl⟩)
          · obtain rfl := Option.some.inj ho
            exact wpOpIn_of rfl rfl (wpW_val (r_move (.tmp 0) rfl (hP.out 0 (dm_out (by kernel_rfl)))) ⟨_, rfl, hS2, trivial, (fun h => by simp at h), rfl⟩)
          · obtain rfl := Option.some.inj ho
            exact wpOpIn_of rfl rfl (wpW_val (r_nil (.tmp 24) _ rfl (hpre ⟨1, .data⟩ (by simp) rfl).2) ⟨_, rfl, hS2, trivial, (fun h => by simp at h), rfl⟩)
          · obtain rfl := Option.some.inj ho
            exact wpOpIn_of rfl rfl (wpW_val (r_fld (.tmp 25) _ rfl (hpre ⟨2, .data⟩ (by simp) rfl).2 (fld169_3 b _)) ⟨_, rfl, hS2, trivial, (fun h => by simp at h), rfl⟩)
          · obtain rfl := Option.some.inj ho
            have h14 := not_yet hcl 14 rfl ⟨4, .phase⟩ (by simp) rfl hls
            have hW := sel1 hS2 h14
            exact wpOpIn_of rfl rfl (wpW_val (r_load1 98 agg98 (.tmp 26) ⟨b, 3, none⟩ rfl (hpre ⟨3, .data⟩ (by simp) rfl).2 (by rw [hW]; exact HP1.out)) ⟨_, rfl, hS2, trivial, (fun h => by simp at h), rfl⟩)
          · obtain rfl := Option.some.inj ho
            exact wpOpIn_of rfl rfl (wpW_val (r_move (.tmp 0) rfl (hP.out 0 (dm_out (by kernel_rfl)))) ⟨_, rfl, hS2, trivial, (fun h => by simp at h), rfl⟩)
          · obtain rfl := Option.some.inj ho
            exact wpOpIn_of rfl rfl (wpW_val (r_nil (.tmp 28) _ rfl (hpre ⟨5, .data⟩ (by simp) rfl).2) ⟨_, rfl, hS2, trivial, (fun h => by simp at h), rfl⟩)
          · obtain rfl := Option.some.inj ho
            exact wpOpIn_of rfl rfl (wpW_val (r_fld (.tmp 29) _ rfl (hpre ⟨6, .data⟩ (by simp) rfl).2 (fld169_3 b _)) ⟨_, rfl, hS2, trivial, (fun h => by simp at h), rfl⟩)
          · obtain rfl := Option.some.inj ho
            have h14 := not_yet hcl 14 rfl ⟨8, .phase⟩ (by simp) rfl hls
            have hW := sel1 hS2 h14
            exact wpOpIn_of rfl rfl (wpW_val (r_load1 98 agg98 (.tmp 30) ⟨b, 3, none⟩ rfl (hpre ⟨7, .data⟩ (by simp) rfl).2 (by rw [hW]; exact HP1.out)) ⟨_, rfl, hS2, trivial, (fun h => by simp at h), rfl⟩)
          · obtain rfl := Option.some.inj ho
            exact wpOpIn_of rfl rfl (wpW_val (r_len (.tmp 31) 98 (some ⟨gk, 0, none⟩) N ck Try.underlying98 rfl (hpre ⟨8, .data⟩ (by simp) rfl).2) ⟨_, rfl, hS2, trivial, (fun h => by simp at h), rfl⟩)
          · obtain rfl := Option.some.inj ho
            exact wpOpIn_of rfl rfl (wpW_val (r_subY (.tmp 32) (N : Int) 1 (n1 : Int) (by omega) (by omega) rfl (hpre ⟨9, .data⟩ (by simp) rfl).2) ⟨_, rfl, hS2, trivial, (fun h => by simp at h), rfl⟩)
          · obtain rfl := Option.some.inj ho
            exact wpOpIn_of rfl rfl (wpW_val (r_slice98Y (.tmp 27) (.tmp 33) gk N ck n1 rfl (hpre ⟨4, .data⟩ (by simp) rfl).2 (hpre ⟨10, .data⟩ (by simp) rfl).2 hn4) ⟨_, rfl, hS2, trivial, (fun h => by simp at h), rfl⟩)
          · obtain rfl := Option.some.inj ho
            exact wpOpIn_of rfl rfl (wpW_val (r_nil (.tmp 23) _ rfl (hpre ⟨0, .data⟩ (by simp) rfl).2) ⟨_, rfl, hS2, trivial, (fun h => by simp at h), rfl⟩)
          · obtain rfl := Option.some.inj ho
            exact wpOpIn_of rfl rfl (wpW_val (r_fld (.tmp 35) _ rfl (hpre ⟨12, .data⟩ (by simp) rfl).2 (fld169_3 b _)) ⟨_, rfl, hS2, trivial, (fun h => by simp at h), rfl⟩)
          · obtain rfl := Option.some.inj ho
            have hW := sel1 hS2 hls
            subst hW
            exact wpOpIn_of rfl rfl (wpW_skip (r_store1 98 (.tmp 36) (.tmp 34) ⟨b, 3, none⟩ _ _ rfl (hpre ⟨13, .data⟩ (by simp) rfl).2 (hpre ⟨11, .data⟩ (by simp) rfl).2 rfl HP1.out HP2.out (st98 _ _ _ _ _ HP1.out HP2.out)) ⟨undef, rfl, rfl, trivial, fun _ => rfl, rfl⟩)

        · intro ls a w9 hall hS2 hP hsl2
          have h14 : ls 14 = true := hall 14 (by decide)
          rw [h14] at hS2
          change w9 = w1.setCell ⟨b, 3, none⟩ (.slice (some ⟨gk, 0, none⟩) n1 ck) at hS2
          obtain ⟨vs, hvs, hfr⟩ := hP.frame 93 rfl
          clear hsl2 hP hall h14 hvs HP1 HP2
          subst hfr
          dsimp only
          simp only [List.range, List.range.loop, List.map_cons, List.map_nil, List.any_cons, List.any_nil, Nat.reduceAdd, Nat.reduceBEq, Nat.reduceLT, Option.some_beq_some, Bool.or_false, if_true, if_false, List.getD_cons_zero, List.getD_cons_succ]
          rw [← hS2] at HS1 HK1 HHC
          obtain ⟨hx0, hx1⟩ := HHC.out
          clear hS2 HHC
          have HSQ : Hid (∀ q, StGB K T wv bl cs base b lim (w9.drewN q) f1.pop ∧ Keeps base K w (w9.drewN q)) := Lib.hid fun q => ⟨HS1.out.below (below_drewN (Below.refl _ _) q), HK1.out.trans (Keeps.all (below_drewN (Below.refl _ _) q) (Nat.le_trans HBW.out HK1.out.size) HS1.out.lt)⟩
          obtain ⟨A1, c1, hf1⟩ := Tab.form (HV.out c hcm w (Keeps.refl _ _ _)).2
          have hv1 : w9.cell? ⟨bw, c, none⟩ = some (.slice A1 (ws c).length c1) := by
            have h := (HV.out c hcm w9 HK1.out).1
            rwa [hf1] at h
          have hv0 : w9.cell? ⟨b, 4, none⟩ = some (.slice (some ⟨bw, 0, none⟩) m cw) := by
            have h := HS1.out.wv_
            rwa [HWV.out] at h
          rw [hf1] at HSA
          have hcI : (c : Int) < (m : Int) := by omega
          have hmI : (m : Int) ≤ 32 := by omega
          clear hf1
          generalize (ws c).length = lc at *
          go_wp2_with fail
          go_quiet (fail)
          go_upto_region 5 with (first
            | (go_at_call 155; (with_reducible refine (HSA.out _ (HSQ.out nq).1 (HSQ.out nq).2).mono ?_); rintro E w3 ⟨rfl, hs3, hb3⟩
               have HS3 := Lib.hid hs3
               have HB3 := Lib.hid ((HSQ.out nq).2.trans hb3)))
          clear HSQ hv1 hv0 hx0 hx1 HSA HS1 HK1
          obtain ⟨hs3, hb3⟩ : _ ∧ _ := ⟨HS3.out, HB3.out⟩
          have HFIN : Hid (∀ W f9, StGB K T wv bl cs base b lim W f9 → Fine g f9 → dedStep m ws f1 = f9 → ded m ws f9 = F ∧ potG b m bl W < potG b m bl wr) := Lib.hid fun W f9 h1 h2 h3 => ⟨by rw [← h3, ← HDS.out]; exact HF.out, by rw [HPO.out, HPI.out W f9 h2.rest.rest.inv h1, ← h3]; exact HLESS.out⟩
          clear HDS HLESS HPO HPI
          obtain ⟨gp, cp, yp, p1, p2, p3⟩ := hs3.live HZL.out
          have hzI : (z : Int) < (fA.s.t.length : Int) := by have := HZL.out; omega
          have hnI : (fA.s.t.length : Int) ≤ 1000 := by have := HFA.out.n; omega
          by_cases hal : fA.s.rp z = z
          · rw [decide_eq_true hal] at p3
            obtain ⟨gr, cr, r1, r2, r3⟩ := hs3.at_ HFA.out.rest.rest.inv HZL.out HC1.out
            rw [← HM.out] at r2
            have hbz := HBA.out c HC1.out
            by_cases hy : 0 ≤ fA.s.t.at z c
            · obtain ⟨y, hye⟩ : ∃ y : Nat, fA.s.t.at z c = (y : Int) := ⟨(fA.s.t.at z c).toNat, by omega⟩
              rw [hye] at r3 hbz
              obtain ⟨fB, hBe⟩ : ∃ fB, scansF m fA y (ws (flp c)) = fB := ⟨_, rfl⟩
              have hDS := dedStep_two HTOP.out HAE.out hal hye hBe
              have hyl : y < fA.s.t.length := by omega
              have hfl : flp c < 2 * g := flp_lt2 HC1.out
              have hxB : FExt g fA fB := by rw [← hBe, HM.out]; exact scans_F (HL.out _ hfl) HFA.out.rest hyl
              have hfB : Fine g fB := HFA.out.ext hxB
              have HFB := Lib.hid hfB
              have HDS := Lib.hid hDS
              have hfm : flp c < m := by rw [HM.out]; exact hfl
              have HSB : Hid (∀ W, StGB K T wv bl cs base b lim W fA → Keeps base K w W → Calls Try.prog 155 #[.pointer (some ⟨b, 0, none⟩), .int .i64 (y : Int), fm (flp c)] W fun e w' => e = .returned (.tuple #[]) ∧ StGB K T wv bl cs base b lim w' fB ∧ Keeps base K W w') := Lib.hid fun W h1 h2 => by
                have := scans155_any K T wv bl cs g m base b lim y HM.out W fA (fm (flp c)) (ws (flp c)) HT.out HFA.out h1 (Nat.le_trans HBW.out h2.size) (fun W' h => (HV.out _ hfm W' (h2.trans h)).2) (HL.out _ hfl) hyl
                rw [hBe] at this
                exact this
              have hzn : z < fA.s.t.length := HZL.out
              have hfe := flp_eq c (by omega)
              have hy0 : (0 : Int) ≤ (y : Int) := Int.natCast_nonneg _
              clear hal hy hye hBe hDS hxB hfB hbz hs3 hb3
              generalize fA.s.t.length = n at *
              go_upto_region 6 with fail
              have hs3 := HS3.out.below (Below.refl _ _).drew
              have hb3 := HB3.out.drew
              have r1 : w3.drew.cell? ⟨b, 0, none⟩ = _ := r1
              have r2 : w3.drew.cell? ⟨gr, z, none⟩ = _ := r2
              have r3 : w3.drew.cell? ⟨bl z, c, none⟩ = _ := r3
              obtain ⟨w0, hw0⟩ : ∃ w0, w0 = w3.drew := ⟨_, rfl⟩
              rw [← hw0] at hs3 hb3 r1 r2 r3
              have HR1 := Lib.hid r1
              have HR2 := Lib.hid r2
              have HR3 := Lib.hid r3
              have HW1 : Hid (w0.cell? ⟨b, 4, none⟩ = some (.slice (some ⟨bw, 0, none⟩) m cw)) := Lib.hid (by
                have h := hs3.wv_
                rwa [HWV.out] at h)
              have HW2 := Lib.hid (HV.out (flp c) hfm w0 hb3).1
              have HSB := Lib.hid (HSB.out _ hs3 hb3)
              have HB0 := Lib.hid hb3
              clear r1 r2 r3 hs3 hb3 p1 p2 p3
              refine (wpIn_wide (n := 3)).1 ?_
              refine wpIn_region_all (by kernel_rfl) 20 rfl (fun i => some (73 + i)) (lex_of (by kernel_rfl)) (fun ls W => (ls 19 = false → W = w0) ∧ (ls 19 = true → StGB K T wv bl cs base b lim W fB ∧ Keeps base K w0 W))
                (fun i v _ => v = ([.pointer (some ⟨b, 0, none⟩), .pointer (some ⟨b, 0, none⟩), .pointer (some ⟨b, 0, none⟩), .pointer (some ⟨b, 0, none⟩), .slice (some ⟨gr, 0, none⟩) n cr, .int .i64 (z : Int), .pointer (some ⟨gr, z, none⟩), .slice (some ⟨bl z, 0, none⟩) m (cs z), .int .i64 (c : Int), .pointer (some ⟨bl z, c, none⟩), .int .i64 (y : Int), .pointer (some ⟨b, 0, none⟩), .pointer (some ⟨b, 0, none⟩), .pointer (some ⟨b, 4, none⟩), .slice (some ⟨bw, 0, none⟩) m cw, .int .i64 (c : Int), .int .i64 ((flp c : Nat) : Int), .pointer (some ⟨bw, flp c, none⟩), fm (flp c), .tuple #[]] : List Value).getD i undef) (fun _ _ _ => True) (dm_inj (by kernel_rfl)) (fun _ _ _ _ _ _ _ _ _ h => h) (dm_lt (n := 93) (by kernel_rfl)) ⟨fun _ => hw0.symm, (fun h => by cases h)⟩ ?_ ?_
              · intro ls q o a w2 hq ho hS2 hls hcl hP hpre
                have hcases : q = 0 ∨ q = 1 ∨ q = 2 ∨ q = 3 ∨ q = 4 ∨ q = 5 ∨ q = 6 ∨ q = 7 ∨ q = 8 ∨ q = 9 ∨ q = 10 ∨ q = 11 ∨ q = 12 ∨ q = 13 ∨ q = 14 ∨ q = 15 ∨ q = 16 ∨ q = 17 ∨ q = 18 ∨ q = 19 := by
                  have : q < 20 := hq
                  omega
                rcases hcases with rfl | rfl | rfl | rfl | rfl | rfl | rfl | rfl | rfl | rfl | rfl | rfl | rfl | rfl | rfl | rfl | rfl | rfl | rfl | rfl
                · obtain rfl := Option.some.inj ho
                  exact wpOpIn_of rfl rfl (wpW_val (r_move (.tmp 0) rfl (hP.out 0 (dm_out (by kernel_rfl)))) ⟨_, rfl, hS2, trivial, (fun h => by simp at h), rfl⟩)
                · obtain rfl := Option.some.inj ho
                  exact wpOpIn_of rfl rfl (wpW_val (r_move (.tmp 0) rfl (hP.out 0 (dm_out (by kernel_rfl)))) ⟨_, rfl, hS2, trivial, (fun h => by simp at h), rfl⟩)
                · obtain rfl := Option.some.inj ho
                  exact wpOpIn_of rfl rfl (wpW_val (r_nil (.tmp 74) _ rfl (hpre ⟨1, .data⟩ (by simp) rfl).2) ⟨_, rfl, hS2, trivial, (fun h => by simp at h), rfl⟩)
                · obtain rfl := Option.some.inj ho
                  exact wpOpIn_of rfl rfl (wpW_val (r_fld (.tmp 75) _ rfl (hpre ⟨2, .data⟩ (by simp) rfl).2 (fld169_0 b _)) ⟨_, rfl, hS2, trivial, (fun h => by simp at h), rfl⟩)
                · obtain rfl := Option.some.inj ho
                  have h6 := not_yet hcl 6 rfl ⟨4, .data⟩ (by simp) rfl hls
                  have h7 := not_yet hcl 7 rfl ⟨6, .data⟩ (by simp) rfl h6
                  have h9 := not_yet hcl 9 rfl ⟨7, .data⟩ (by simp) rfl h7
                  have h10 := not_yet hcl 10 rfl ⟨9, .data⟩ (by simp) rfl h9
                  have h19 := not_yet hcl 19 rfl ⟨10, .data⟩ (by simp) rfl h10
                  have hw := hS2.1 h19
                  exact wpOpIn_of rfl rfl (wpW_val (r_load1 23 agg23 (.tmp 76) ⟨b, 0, none⟩ rfl (hpre ⟨3, .data⟩ (by simp) rfl).2 (hw ▸ HR1.out)) ⟨_, rfl, hS2, trivial, (fun h => by simp at h), rfl⟩)
                · obtain rfl := Option.some.inj ho
                  exact wpOpIn_of rfl rfl (wpW_val (r_move (.tmp 3) rfl (hP.out 3 (dm_out (by kernel_rfl)))) ⟨_, rfl, hS2, trivial, (fun h => by simp at h), rfl⟩)
                · obtain rfl := Option.some.inj ho
                  exact wpOpIn_of rfl rfl (wpW_val (r_idx (.tmp 77) (.tmp 78) _ _ rfl (hpre ⟨4, .data⟩ (by simp) rfl).2 (hpre ⟨5, .data⟩ (by simp) rfl).2 (idx_sl Try.underlying23 size24 gr _ cr z hzn _)) ⟨_, rfl, hS2, trivial, (fun h => by simp at h), rfl⟩)
                · obtain rfl := Option.some.inj ho
                  have h9 := not_yet hcl 9 rfl ⟨7, .data⟩ (by simp) rfl hls
                  have h10 := not_yet hcl 10 rfl ⟨9, .data⟩ (by simp) rfl h9
                  have h19 := not_yet hcl 19 rfl ⟨10, .data⟩ (by simp) rfl h10
                  have hw := hS2.1 h19
                  exact wpOpIn_of rfl rfl (wpW_val (r_load1 24 agg24 (.tmp 79) ⟨gr, z, none⟩ rfl (hpre ⟨6, .data⟩ (by simp) rfl).2 (hw ▸ HR2.out)) ⟨_, rfl, hS2, trivial, (fun h => by simp at h), rfl⟩)
                · obtain rfl := Option.some.inj ho
                  exact wpOpIn_of rfl rfl (wpW_val (r_move (.tmp 4) rfl (hP.out 4 (dm_out (by kernel_rfl)))) ⟨_, rfl, hS2, trivial, (fun h => by simp at h), rfl⟩)
                · obtain rfl := Option.some.inj ho
                  exact wpOpIn_of rfl rfl (wpW_val (r_idx (.tmp 80) (.tmp 81) _ _ rfl (hpre ⟨7, .data⟩ (by simp) rfl).2 (hpre ⟨8, .data⟩ (by simp) rfl).2 (idx_sl Try.underlying24 size3 (bl z) _ (cs z) c hcm _)) ⟨_, rfl, hS2, trivial, (fun h => by simp at h), rfl⟩)
                · obtain rfl := Option.some.inj ho
                  have h19 := not_yet hcl 19 rfl ⟨10, .data⟩ (by simp) rfl hls
                  have hw := hS2.1 h19
                  exact wpOpIn_of rfl rfl (wpW_val (r_load1 3 agg3 (.tmp 82) ⟨bl z, c, none⟩ rfl (hpre ⟨9, .data⟩ (by simp) rfl).2 (hw ▸ HR3.out)) ⟨_, rfl, hS2, trivial, (fun h => by simp at h), rfl⟩)
                · obtain rfl := Option.some.inj ho
                  exact wpOpIn_of rfl rfl (wpW_val (r_move (.tmp 0) rfl (hP.out 0 (dm_out (by kernel_rfl)))) ⟨_, rfl, hS2, trivial, (fun h => by simp at h), rfl⟩)
                · obtain rfl := Option.some.inj ho
                  exact wpOpIn_of rfl rfl (wpW_val (r_nil (.tmp 84) _ rfl (hpre ⟨11, .data⟩ (by simp) rfl).2) ⟨_, rfl, hS2, trivial, (fun h => by simp at h), rfl⟩)
                · obtain rfl := Option.some.inj ho
                  exact wpOpIn_of rfl rfl (wpW_val (r_fld (.tmp 85) _ rfl (hpre ⟨12, .data⟩ (by simp) rfl).2 (fld169_4 b _)) ⟨_, rfl, hS2, trivial, (fun h => by simp at h), rfl⟩)
                · obtain rfl := Option.some.inj ho
                  have h17 := not_yet hcl 17 rfl ⟨14, .data⟩ (by simp) rfl hls
                  have h18 := not_yet hcl 18 rfl ⟨17, .data⟩ (by simp) rfl h17
                  have h19 := not_yet hcl 19 rfl ⟨18, .data⟩ (by simp) rfl h18
                  have hw := hS2.1 h19
                  exact wpOpIn_of rfl rfl (wpW_val (r_load1 167 agg167 (.tmp 86) ⟨b, 4, none⟩ rfl (hpre ⟨13, .data⟩ (by simp) rfl).2 (hw ▸ HW1.out)) ⟨_, rfl, hS2, trivial, (fun h => by simp at h), rfl⟩)
                · obtain rfl := Option.some.inj ho
                  exact wpOpIn_of rfl rfl (wpW_val (r_move (.tmp 4) rfl (hP.out 4 (dm_out (by kernel_rfl)))) ⟨_, rfl, hS2, trivial, (fun h => by simp at h), rfl⟩)
                · obtain rfl := Option.some.inj ho
                  exact wpOpIn_of rfl rfl (wpW_val (r_xor (.tmp 88) (c : Int) _ rfl (hpre ⟨15, .data⟩ (by simp) rfl).2 hfe) ⟨_, rfl, hS2, trivial, (fun h => by simp at h), rfl⟩)
                · obtain rfl := Option.some.inj ho
                  exact wpOpIn_of rfl rfl (wpW_val (r_idx (.tmp 87) (.tmp 89) _ _ rfl (hpre ⟨14, .data⟩ (by simp) rfl).2 (hpre ⟨16, .data⟩ (by simp) rfl).2 (idx_sl under167 size31 bw _ cw (flp c) hfm _)) ⟨_, rfl, hS2, trivial, (fun h => by simp at h), rfl⟩)
                · obtain rfl := Option.some.inj ho
                  have h19 := not_yet hcl 19 rfl ⟨18, .data⟩ (by simp) rfl hls
                  have hw := hS2.1 h19
                  exact wpOpIn_of rfl rfl (wpW_val (r_load1 31 agg31 (.tmp 90) ⟨bw, flp c, none⟩ rfl (hpre ⟨17, .data⟩ (by simp) rfl).2 (hw ▸ HW2.out)) ⟨_, rfl, hS2, trivial, (fun h => by simp at h), rfl⟩)
                · obtain rfl := Option.some.inj ho
                  have hw := hS2.1 hls
                  subst hw
                  exact wpOpIn_of rfl rfl (wpW_call (R := fun v w' => v = .tuple #[] ∧ StGB K T wv bl cs base b lim w' fB ∧ Keeps base K w2 w') (r_call3 (.tmp 73) (.tmp 83) (.tmp 91) _ _ _ _ rfl (hpre ⟨0, .data⟩ (by simp) rfl).2 (hpre ⟨10, .data⟩ (by simp) rfl).2 (hpre ⟨18, .data⟩ (by simp) rfl).2 call155) (HSB.out.mono fun e w' ⟨he, h⟩ => ⟨_, he, rfl, h⟩)
                    (fun v w'' ⟨hv, h⟩ => ⟨v, rfl, ⟨(fun h => by simp at h), fun _ => h⟩, trivial, (fun h => by simp at h), hv⟩))

              · intro ls a w9 hall hS2 hP hsl2
                have h19 : ls 19 = true := hall 19 (by decide)
                obtain ⟨hs9, hb9⟩ := hS2.2 h19
                obtain ⟨vs9, hvs, hfr⟩ := hP.frame 93 rfl
                clear hsl2 hP hall h19 hvs hS2 HSB HW1 HW2 HR1 HR2 HR3
                subst hfr
                dsimp only
                simp only [List.range, List.range.loop, List.map_cons, List.map_nil, List.any_cons, List.any_nil, Nat.reduceAdd, Nat.reduceBEq, Option.some_beq_some, Bool.or_false, if_true, if_false, Bool.false_eq_true, List.getD_cons_zero, List.getD_cons_succ]
                have HB9 := Lib.hid (HB0.out.trans hb9)
                have HS9 := Lib.hid hs9
                obtain ⟨hF9, hlt9⟩ := HFIN.out w9 fB hs9 HFB.out HDS.out
                have HF9 := Lib.hid hF9
                have HLT9 := Lib.hid hlt9
                clear hs9 hb9 hF9 hlt9 hw0
                go_wp2_with fail
                go_roundw
                case rel => exact ⟨fB, Lib.hid ⟨HS9.out, HFB.out⟩, HF9, HB9⟩
                case measure => exact HLT9.out
            · have hDS := dedStep_one HTOP.out HAE.out (fun h => hy h.2)
              obtain ⟨hF9, hlt9⟩ := HFIN.out w3 fA hs3 HFA.out hDS
              have HF9 := Lib.hid hF9
              have HLT9 := Lib.hid hlt9
              have hy' : fA.s.t.at z c < 0 := by omega
              have hby := hbz.1
              clear hal hy hs3 hb3 hF9 hlt9 hDS hbz
              generalize fA.s.t.at z c = y at *
              generalize fA.s.t.length = n at *
              go_wp2_with fail
              go_roundw
              case rel => exact ⟨fA, Lib.hid ⟨HS3.out, HFA.out⟩, HF9, HB3⟩
              case measure => exact HLT9.out
          · rw [decide_eq_false hal] at p3
            have hDS := dedStep_one HTOP.out HAE.out (fun h => hal h.1)
            obtain ⟨hF9, hlt9⟩ := HFIN.out w3 fA hs3 HFA.out hDS
            have HF9 := Lib.hid hF9
            have HLT9 := Lib.hid hlt9
            clear hal hs3 hb3 hF9 hlt9 hDS
            generalize fA.s.t.length = n at *
            go_wp2_with fail
            go_roundw
            case rel => exact ⟨fA, Lib.hid ⟨HS3.out, HFA.out⟩, HF9, HB3⟩
            case measure => exact HLT9.out
    · have h0 : f1.k = [] := List.length_eq_zero_iff.1 (by omega)
      have HE : Hid (f1 = F) := Lib.hid (by rw [← HF.out]; exact (ded_stop h0).symm)
      have hkz : (f1.k.length : Int) = 0 := by omega
      have HST := Lib.hid hst
      clear hst hfi hpt h0
      go_wp2_with fail
      go_end0
      exact ⟨rfl, by rw [← HE.out]; exact HST.out, HB.out⟩
end Go.Proofs
namespace Go.Proofs.Ct
theorem openS_at {m : Nat} {s : St} {k p : Nat} (hk : k < s.t.length) (hl : s.rp k = k) (hp : p < m) (h0 : s.t.at k p < 0) (hb : ∀ j, j < p → 0 ≤ s.t.at k j) (hbk : ∀ j, j < k → openR m s j = false) : openS m s = some (k, p) := by
  have h1 : openC m s k = some p := first_some hp (by simpa using h0) fun j hj => by simpa using hb j hj
  have h2 : openR m s k = true := by unfold openR; rw [h1, hl]; simp
  unfold openS
  rw [first_some hk h2 hbk]
  simp only
  rw [h1]
  rfl
theorem openS_no {m : Nat} {s : St} (hbk : ∀ j, j < s.t.length → openR m s j = false) : openS m s = none := by
  unfold openS
  rw [first_none hbk]
theorem openR_dead {m : Nat} {s : St} {k : Nat} (hl : s.rp k ≠ k) : openR m s k = false := by
  unfold openR
  rw [decide_eq_false hl]
  rfl
theorem openR_full {m : Nat} {s : St} {k : Nat} (h : ∀ c, c < m → 0 ≤ s.t.at k c) : openR m s k = false := by
  unfold openR openC
  rw [first_none fun j hj => by simpa using h j hj]
  simp
end Go.Proofs.Ct
namespace Go.Proofs
open Go.RowKit Go.Shelf Go.Proofs.Ct Go.Maps
set_option maxRecDepth 100000 in
set_option maxHeartbeats 2000000 in
theorem open153_any (K : Nat → Prop) (T : TypeId) (wv : Value) (bl cs : Nat → Nat) (g m base b lim : Nat) (hm : m = 2 * g) (hg : g ≤ 16) (w : World) (f : FS) (hT : TyF T) (hI : Inv g f.s) (hn : f.s.t.length ≤ 1000) (hS : StGB K T wv bl cs base b lim w f) :
    Calls Try.prog 153 #[.pointer (some ⟨b, 0, none⟩)] w fun e w' => e = .returned (openV (openS m f.s)) ∧ w = w' := by
  obtain ⟨A, c0, hc0, -⟩ := hS.top
  have HAT : Hid (∀ r, r < f.s.t.length → ∃ gr cr gp cp y : Nat, w.cell? ⟨b, 0, none⟩ = some (.slice (some ⟨gr, 0, none⟩) f.s.t.length cr) ∧ w.cell? ⟨gr, r, none⟩ = some (.slice (some ⟨bl r, 0, none⟩) m (cs r)) ∧ w.cell? ⟨b, 1, none⟩ = some (.slice (some ⟨gp, 0, none⟩) f.s.t.length cp) ∧ w.cell? ⟨gp, r, none⟩ = some (.int .i64 (y : Int)) ∧ ((y : Int) == (r : Int)) = decide (f.s.rp r = r) ∧ ∀ c, c < m → w.cell? ⟨bl r, c, none⟩ = some (.int .i64 (f.s.t.at r c))) := Lib.hid fun r hr => by
    obtain ⟨gr, cr, v1, v2, v3⟩ := hS.view hT hI.len (by omega)
    obtain ⟨gp, cp, y, p1, p2, p3⟩ := hS.live hr
    have h2 := v2 r hr
    rw [← hm] at h2
    exact ⟨gr, cr, gp, cp, y, v1, h2, p1, p2, p3, fun c hc => (v3 r c hr (by omega)).1⟩
  have HBD : Hid (∀ r, r < f.s.t.length → ∀ c, c < m → -1 ≤ f.s.t.at r c ∧ f.s.t.at r c < f.s.t.length) := Lib.hid (by rw [hm]; exact hI.bd)
  have hn0 : (0 : Int) ≤ (f.s.t.length : Int) := Int.natCast_nonneg _
  have hn1 : (f.s.t.length : Int) ≤ 1000 := by omega
  have hm0 : (m : Int) ≤ 32 := by omega
  have HON := Lib.hid (openS_no (m := m) (s := f.s))
  have HOA := Lib.hid fun (k p : Nat) => openS_at (m := m) (s := f.s) (k := k) (p := p)
  have HOD := Lib.hid fun (k : Nat) => openR_dead (m := m) (s := f.s) (k := k)
  have HOF := Lib.hid fun (k : Nat) => openR_full (m := m) (s := f.s) (k := k)
  clear hS hI hT hm hn
  generalize hO : openS m f.s = O at *
  clear hO
  generalize hR : Ct.openR m f.s = opn at *
  clear hR
  go_enter Try.func153, Try.ntmps153
  go_wp2_with fail
  go_loopw [5] (fun i wr => ∃ k : Nat, i = .int .i64 (k : Int) ∧ k ≤ f.s.t.length ∧ Hid (∀ j, j < k → opn j = false) ∧ w = wr) (fun i _ => f.s.t.length - (intOf i).toNat)
  case atStart => exact ⟨0, rfl, Nat.zero_le _, Lib.hid fun j hj => absurd hj (by omega), rfl⟩
  case round =>
    obtain ⟨k, rfl, hk, HK, rfl⟩ := hrel
    have hk0 : (0 : Int) ≤ (k : Int) := Int.natCast_nonneg _
    by_cases hlt : k < f.s.t.length
    · have hltI : (k : Int) < (f.s.t.length : Int) := by omega
      obtain ⟨gr, cr, gp, cp, y, a1, a2, a3, a4, a5, a6⟩ := HAT.out k hlt
      rw [hc0] at a1
      cases a1
      have HAC := Lib.hid a6
      clear a6
      generalize hbk : bl k = bk at *
      generalize cs k = kk at *
      by_cases hl : f.s.rp k = k
      · rw [decide_eq_true hl] at a5
        go_wp2_with fail
        go_loopw [6] (fun i wr => ∃ p : Nat, i = .int .i64 (p : Int) ∧ p ≤ m ∧ Hid (∀ j, j < p → 0 ≤ f.s.t.at k j) ∧ w = wr) (fun i _ => m - (intOf i).toNat)
        case atStart => exact ⟨0, rfl, Nat.zero_le _, Lib.hid fun j hj => absurd hj (by omega), rfl⟩
        case round =>
          obtain ⟨p, rfl, hp, HP, rfl⟩ := hrel
          have hp0 : (0 : Int) ≤ (p : Int) := Int.natCast_nonneg _
          by_cases hpm : p < m
          · have hpI : (p : Int) < (m : Int) := by omega
            have hcc := HAC.out p hpm
            obtain ⟨hb1, hb2⟩ := HBD.out k hlt p hpm
            by_cases h0 : f.s.t.at k p < 0
            · have HE := Lib.hid (HOA.out k p hlt hl hpm h0 HP.out HK.out)
              generalize f.s.t.at k p = z at *
              go_wp2_with fail
              go_ret3
              exact ⟨by rw [HE.out]; rfl, by first | trivial | rfl⟩
            · have HP2 : Hid (∀ j, j < p + 1 → 0 ≤ f.s.t.at k j) := Lib.hid fun j hj => by
                rcases Nat.lt_or_ge j p with h | h
                · exact HP.out j h
                · obtain rfl : j = p := by omega
                  omega
              generalize f.s.t.at k p = z at *
              go_wp2_with fail
              go_roundw
              case rel => exact ⟨p + 1, by go_num, by omega, HP2, by first | trivial | rfl⟩
              case measure => simp [intOf]; omega
          · obtain rfl : p = m := by omega
            have HKF := Lib.hid (HOF.out k HP.out)
            have HK2 : Hid (∀ j, j < k + 1 → opn j = false) := Lib.hid fun j hj => by
              rcases Nat.lt_or_ge j k with h | h
              · exact HK.out j h
              · obtain rfl : j = k := by omega
                exact HKF.out
            clear hpm
            go_wp2_with fail
            go_roundw
            case rel => exact ⟨k + 1, by go_num, by omega, HK2, by first | trivial | rfl⟩
            case measure => simp [intOf]; omega
      · rw [decide_eq_false hl] at a5
        have HKF := Lib.hid (HOD.out k hl)
        have HK2 : Hid (∀ j, j < k + 1 → opn j = false) := Lib.hid fun j hj => by
          rcases Nat.lt_or_ge j k with h | h
          · exact HK.out j h
          · obtain rfl : j = k := by omega
            exact HKF.out
        clear hl
        go_wp2_with fail
        go_loopw [6] (fun i wr => i = .int .i64 0 ∧ w = wr) (fun i _ => 0)
        case atStart => exact ⟨rfl, rfl⟩
        case round =>
          obtain ⟨rfl, rfl⟩ := hrel
          go_wp2_with fail
          go_roundw
          case rel => exact ⟨k + 1, by go_num, by omega, HK2, by first | trivial | rfl⟩
          case measure => simp [intOf]; omega
    · obtain rfl : k = f.s.t.length := by omega
      have HE := Lib.hid (HON.out HK.out)
      clear hlt
      go_wp2_with fail
      go_ret3
      exact ⟨by rw [HE.out]; rfl, by first | trivial | rfl⟩
end Go.Proofs
