/- (*looker).room. -/
import Derived.Test.YtmpnengjboabcaaFtCS21
namespace Go.Proofs
open Go.RowKit Go.Shelf Go.Proofs.Ct Go.Maps
def LkF (K : Nat → Prop) (vr : Value) (g base b m lim : Nat) (w : World) (x : LS) : Prop := ∃ k, StF K 176 (exL vr x.r x.lost x.removed x.looks) base b m lim w ⟨x.s, k⟩ ∧ Fine g ⟨x.s, k⟩ ∧ x.removed ≤ 1000 * x.looks
theorem fld176_0 (b : Nat) (w : World) : (Instr.fieldAt 176 (.pointer (some ⟨b, 0, none⟩)) 0).run Try.prog w = .ok (.pointer (some ⟨b, 0, none⟩)) w := by kernel_rfl
theorem fld176_2 (b : Nat) (w : World) : (Instr.fieldAt 176 (.pointer (some ⟨b, 0, none⟩)) 2).run Try.prog w = .ok (.pointer (some ⟨b, 9, none⟩)) w := by kernel_rfl
theorem fld176_3 (b : Nat) (w : World) : (Instr.fieldAt 176 (.pointer (some ⟨b, 0, none⟩)) 3).run Try.prog w = .ok (.pointer (some ⟨b, 10, none⟩)) w := by kernel_rfl
theorem call198 (args : Array Value) (w : World) : (callFunc 198 args).run Try.prog w = .ok (.enter 198 args) w := enters_of Try.func198 (by kernel_rfl) rfl args w
theorem st4 {w : World} (ad : Addr) (u : Value) (y : Bool) (hc : w.cell? ad = some u) (hf : w.frozen? ad = false) : (Instr.storeAt 4 (.pointer (some ad)) (.bool y)).run Try.prog w = .ok () (w.setCell ad (.bool y)) := by
  simp [Instr.storeAt, Instr.sureAddr, go_sem, hc, hf]
theorem r_not {o : Oper} {a : Act} {w : World} (x : Operand) (y : Bool) (ho : o.op = .unOp .not 4 x) (hx : a.eval x = .bool y) : (execOp a.eval o).run Try.prog w = .ok (.value (.bool (!y))) w := by
  unfold execOp
  simp only [ho, hx]
  rfl
theorem fine_any {g : Nat} {s : St} (hg1 : 1 ≤ g) (hg : g ≤ 16) (hr : Ct.Rest g s) (hn : s.t.length ≤ 1000) : Fine g ⟨s, []⟩ := by
  refine ⟨hg1, hg, ⟨hr, fun p hp => by cases hp⟩, hn, ?_⟩
  have hlv := live_le_n hr
  have hu : undT s.t ≤ s.t.length * (2 * g) := und_le fun r hr' => hr.inv.len r hr'
  have h2 : s.t.length * (2 * g) ≤ s.t.length * 32 := Nat.mul_le_mul_left _ (by omega)
  have h5 : s.live.toNat * (3 * (s.t.length * (2 * g)) + 1) ≤ s.t.length * 96001 := Nat.mul_le_mul (by omega) (by omega)
  unfold Ct.pot
  simp only [List.length_nil]
  omega
theorem StFB.unpair {K : Nat → Prop} {T : TypeId} {ex : List Value} {bl cs : Nat → Nat} {base b wd lim : Nat} {w : World} {f : FS} (hT : TyF T) (hS : StFB K T ex bl cs base b wd lim w f) :
    StFB K T ex bl cs base b wd lim (w.setCell ⟨b, 5, none⟩ (.slice none 0 0)) ⟨f.s, []⟩ ∧ Keeps base K w (w.setCell ⟨b, 5, none⟩ (.slice none 0 0)) := by
  obtain ⟨hb, P, vr, vp, vq, vk, hB, hC, hK, hF⟩ := hS
  refine ⟨⟨hb, P, vr, vp, vq, .slice none 0 0, hB.upd5 _ rfl rfl, hC.keep fun j C e _ hj he => Below.heap_setCell w ⟨b, 5, none⟩ _ j fun e' => ?_, World.ownsRow_nil _ _ _ _, ?_⟩, (Keeps.refl _ _ _).setCell hb hF.box _⟩
  · have e2 : j = b := e'
    rw [e2, hB.box] at hj
    injection hj with hj
    injection hj with _ hj _
    rcases he with he | he
    · exact hT.a (hj.trans he)
    · exact hT.b (hj.trans he)
  · have h := hF.mono (w' := w.setCell ⟨b, 5, none⟩ (.slice none 0 0)) (by simp [World.setCell])
    exact ⟨h.lt, h.box, h.r, h.p, h.q, (fun k hr => by cases hr), h.row⟩
theorem StF.look {K : Nat → Prop} {vr : Value} {base b m lim : Nat} {w : World} {f : FS} {r removed looks : Nat} {lost : Bool} (h : StF K 176 (exL vr r lost removed looks) base b m lim w f) :
    w.cell? ⟨b, 0, none⟩ = some (.int .i64 (m : Int)) ∧ w.cell? ⟨b, 1, none⟩ = some (.int .i64 (lim : Int)) ∧ (∃ A c, w.cell? ⟨b, 2, none⟩ = some (.slice A f.s.t.length c)) ∧ w.cell? ⟨b, 6, none⟩ = some (.int .i64 f.s.live) ∧ w.cell? ⟨b, 8, none⟩ = some vr ∧ w.cell? ⟨b, 9, none⟩ = some (.int .i64 (r : Int)) ∧ w.cell? ⟨b, 10, none⟩ = some (.bool lost) ∧ w.cell? ⟨b, 11, none⟩ = some (.int .i64 (removed : Int)) ∧ w.cell? ⟨b, 12, none⟩ = some (.int .i64 (looks : Int)) ∧ ∀ k, w.frozen? ⟨b, k, none⟩ = false := by
  have hr := h.rows2
  obtain ⟨bl, cs, -, P, v1, v2, v3, v4, hB, -⟩ := h
  obtain ⟨c0, c1, -, -, -, -, c6, -⟩ := hB.cells
  exact ⟨c0, c1, hr, c6, hB.more (k := 0) rfl, hB.more (k := 1) rfl, hB.more (k := 2) rfl, hB.more (k := 3) rfl, hB.more (k := 4) rfl, hB.frozen⟩
set_option maxRecDepth 100000 in
set_option maxHeartbeats 1000000 in
theorem room201_not (K : Nat → Prop) (vr : Value) (g m base b lim : Nat) (w : World) (x : LS) (hS : LkF K vr g base b m lim w x) (hl : x.s.t.length < lim) (hlim : lim ≤ 1000) :
    Calls Try.prog 201 #[.pointer (some ⟨b, 0, none⟩)] w fun e w' => e = .returned (.bool false) ∧ ∃ q, w' = w.drewN q := by
  obtain ⟨k, hst, -⟩ := hS
  obtain ⟨c0, c1, ⟨A, c, c2⟩, -⟩ := hst.look
  have hlI : (x.s.t.length : Int) < (lim : Int) := by omega
  have hn0 : (0 : Int) ≤ (x.s.t.length : Int) := Int.natCast_nonneg _
  have hlm : (lim : Int) ≤ 1000 := by omega
  clear hst
  go_enter Try.func201, Try.ntmps201
  go_wp2_with fail
  go_quiet (fail)
  go_wp2_with fail
  go_ret
  exact ⟨rfl, (by first | exact ⟨_, rfl⟩ | exact ex_drewN)⟩
set_option maxRecDepth 100000 in
set_option maxHeartbeats 1000000 in
theorem room201_last (K : Nat → Prop) (vr : Value) (g m base b lim : Nat) (w : World) (x : LS) (hS : LkF K vr g base b m lim w x) (hl : lim ≤ x.s.t.length) (h50 : x.looks = 50) :
    Calls Try.prog 201 #[.pointer (some ⟨b, 0, none⟩)] w fun e w' => e = .panicked fullF ∧ Keeps base K w w' := by
  obtain ⟨k, hst, hF, -⟩ := hS
  obtain ⟨c0, c1, ⟨A, c, c2⟩, -, -, -, -, -, c12, -⟩ := hst.look
  rw [h50] at c12
  have hlI : ¬ (x.s.t.length : Int) < (lim : Int) := by omega
  have hn0 : (0 : Int) ≤ (x.s.t.length : Int) := Int.natCast_nonneg _
  have hnm : (x.s.t.length : Int) ≤ 1000 := by
    have h : x.s.t.length ≤ 1000 := hF.n
    omega
  clear hst hF
  go_enter Try.func201, Try.ntmps201
  go_wp2_with fail
  go_quiet (fail)
  go_wp2_with fail
  exact ⟨rfl, rfl, below_drewN (Below.refl _ _) _, fun _ _ => rfl⟩
theorem own_repl {base L g : Nat} {W : World} (hg : base ≤ g) (hL : L ≤ 1000) (h : W.heap[g]? = some (.cells (Array.replicate L (.int .i64 0)) 3 (0, 0))) : OwnI base W (.slice (some ⟨g, 0, none⟩) L L) (List.replicate L 0) := by
  have e : (List.replicate L (0 : Int)).length = L := by simp
  unfold OwnI
  rw [e]
  refine ⟨by simp [ints], .inr ⟨g, L, _, rfl, hg, h, Nat.le_refl _, by unfold maxLen; omega, by simp, ?_⟩⟩
  simp [ints]
def idP (L k : Nat) : List Int := (List.range L).map fun i => if i < k then (i : Int) else 0
theorem length_idP (L k : Nat) : (idP L k).length = L := by simp [idP]
theorem idP_getD {L k i : Nat} (h : i < L) : (idP L k).getD i 0 = if i < k then (i : Int) else 0 := by simp [idP, List.getD_eq_getElem?_getD, h]
theorem idP_zero (L : Nat) : idP L 0 = List.replicate L 0 := getD_ext (d := 0) (by simp [length_idP]) fun i hi => by
  rw [length_idP] at hi
  rw [idP_getD hi, if_neg (Nat.not_lt_zero _)]
  simp [List.getD_eq_getElem?_getD, hi]
theorem idP_succ {L k : Nat} (h : k < L) : idP L (k + 1) = (idP L k).set k (k : Int) := getD_ext (d := 0) (by simp [length_idP]) fun i hi => by
  rw [length_idP] at hi
  rw [idP_getD hi, getD_set, length_idP]
  by_cases e : k = i
  · subst e; rw [if_pos (by omega), if_pos ⟨rfl, h⟩]
  · rw [if_neg (fun h' : k = i ∧ k < L => e h'.1), idP_getD hi]
    by_cases h2 : i < k
    · rw [if_pos h2, if_pos (by omega)]
    · rw [if_neg h2, if_neg (by omega)]
structure RoomS (b wd lim L : Nat) (ex : List Value) (s : St) (VR vr vp vq vk : Value) (w10 : World) (l5 l9 l13 : Bool) (W : World) : Prop where
  os : W.os = w10.os
  tape : W.tape = w10.tape
  output : W.output = w10.output
  size : w10.heap.size ≤ W.heap.size
  keep : ∀ k, k < w10.heap.size → k ≠ b → W.heap[k]? = w10.heap[k]?
  fresh : l5 = false → W.heap.size = w10.heap.size
  made : l5 = true → W.heap[w10.heap.size]? = some (.cells (Array.replicate L (.int .i64 0)) 3 (0, 0))
  box : W.heap[b]? = some (.cells (#[.int .i64 (wd : Int), .int .i64 (lim : Int), (if l9 = true then VR else vr), (if l13 = true then .slice (some ⟨w10.heap.size, 0, none⟩) L L else vp), vq, vk, .int .i64 s.live, .int .i64 s.most] ++ ex.toArray) 176 (0, 0))
section
variable {b wd lim L : Nat} {ex : List Value} {s : St} {VR vr vp vq vk : Value} {w10 W : World} {l5 l9 l13 : Bool}
theorem RoomS.lt (h : RoomS b wd lim L ex s VR vr vp vq vk w10 l5 l9 l13 W) : b < W.heap.size := (Array.getElem?_eq_some_iff.1 h.box).1
theorem RoomS.make (h : RoomS b wd lim L ex s VR vr vp vq vk w10 false l9 l13 W) : RoomS b wd lim L ex s VR vr vp vq vk w10 true l9 l13 (W.alloc (.cells (Array.replicate L (.int .i64 0)) 3)) := by
  have hal : Below W.heap.size W (W.alloc (.cells (Array.replicate L (.int .i64 0)) 3)) := (Below.refl _ _).alloc (Nat.le_refl _) _
  have hsz := h.fresh rfl
  refine ⟨hal.os.trans h.os, hal.tape.trans h.tape, hal.output.trans h.output, Nat.le_trans h.size hal.size, fun k hk hn => (hal.block k (by omega)).trans (h.keep k hk hn), (fun e => by cases e), fun _ => ?_, (hal.block b h.lt).trans h.box⟩
  have hn := heap_alloc_new W (.cells (Array.replicate L (.int .i64 0)) 3)
  rw [hsz] at hn
  exact hn
theorem RoomS.store9 (h : RoomS b wd lim L ex s VR vr vp vq vk w10 l5 false l13 W) (hb : b < w10.heap.size) : RoomS b wd lim L ex s VR vr vp vq vk w10 l5 true l13 (W.setCell ⟨b, 2, none⟩ VR) := by
  refine ⟨h.os, h.tape, h.output, by simpa [World.setCell] using h.size, fun k hk hn => (Below.heap_setCell W ⟨b, 2, none⟩ VR k hn).trans (h.keep k hk hn), fun e => by simpa [World.setCell] using h.fresh e, fun e => (Below.heap_setCell W ⟨b, 2, none⟩ VR _ (by show w10.heap.size ≠ b; omega)).trans (h.made e), ?_⟩
  rw [box_setF h.box, set_app (by simp)]
  simp
theorem RoomS.store13 (h : RoomS b wd lim L ex s VR vr vp vq vk w10 l5 l9 false W) (hb : b < w10.heap.size) : RoomS b wd lim L ex s VR vr vp vq vk w10 l5 l9 true (W.setCell ⟨b, 3, none⟩ (.slice (some ⟨w10.heap.size, 0, none⟩) L L)) := by
  refine ⟨h.os, h.tape, h.output, by simpa [World.setCell] using h.size, fun k hk hn => (Below.heap_setCell W ⟨b, 3, none⟩ _ k hn).trans (h.keep k hk hn), fun e => by simpa [World.setCell] using h.fresh e, fun e => (Below.heap_setCell W ⟨b, 3, none⟩ _ _ (by show w10.heap.size ≠ b; omega)).trans (h.made e), ?_⟩
  rw [box_setF h.box, set_app (by simp)]
  simp
end
theorem room_end {K : Nat → Prop} {vr : Value} {base b m lim L n r looks removed : Nat} {lost : Bool} {ex9 : List Value} {s1 : St} {g : Nat} {A9 : Option Addr} {c9 : Nat} {P9 : List Int} {vr9 vp9 vq9 vk9 : Value} {bl8 cs : Nat → Nat} {w8 w9 w10 w11 wr : World}
    (_hR : Ct.Rest g s1) (hL : L = (liv s1).length) (hcore : CoreN base w9 (sqS s1).t s1.q P9 (.slice A9 L c9) vp9 vq9 (fun i => bl8 ((liv s1).getD i 0)) cs) (hpr : OwnC base w9 vk9 []) (hb : BoxF 176 ex9 b m lim w9 s1 vr9 vp9 vq9 vk9) (hbb : base ≤ b) (_hsz8 : base ≤ w8.heap.size)
    (hnew : ∀ r, (Value.slice A9 L c9).ownBlock = some r → w8.heap.size ≤ r) (hk9 : Keeps base K w8 w9) (hfree : Free K w8 b vr9 vp9 vq9 vk9 bl8 n) (hn : s1.t.length = n)
    (hw10 : w10 = (w9.setCell ⟨b, 9, none⟩ (.int .i64 (r : Int))).drew)
    (hrm : RoomS b m lim L (exL vr r lost removed looks) s1 (.slice A9 L c9) vr9 vp9 vq9 vk9 w10 true true true w11)
    (hi : OwnI base wr (.slice (some ⟨w10.heap.size, 0, none⟩) L L) (idP L L) ∧ wr.os = w11.os ∧ wr.tape = w11.tape ∧ wr.output = w11.output ∧ wr.heap.size = w11.heap.size ∧ ∀ k, k ≠ w10.heap.size → wr.heap[k]? = w11.heap[k]?) :
    StF K 176 (exL vr r lost removed looks) base b m lim wr ⟨sqS s1, []⟩ ∧ Keeps base K w8 wr := by
  obtain ⟨i1, i2, i3, i4, i5, i6⟩ := hi
  have hlt9 : b < w9.heap.size := hb.lt
  have hsz : w10.heap.size = w9.heap.size := by rw [hw10]; simp [World.setCell, World.drew]
  have hk10 : Keeps base K w9 w10 := by rw [hw10]; exact ((Keeps.refl _ _ _).setCell hbb hfree.box _).drew
  have hkeep : ∀ k, k < w9.heap.size → k ≠ b → wr.heap[k]? = w9.heap[k]? := fun k hk hne => by
    rw [i6 k (by omega), hrm.keep k (by omega) hne, hw10]
    exact Below.heap_setCell w9 ⟨b, 9, none⟩ _ k hne
  have hkt : ∀ (k : Nat) (C : Array Value) (e : TypeId), w9.heap[k]? = some (.cells C e (0, 0)) → e ≠ 176 → wr.heap[k]? = w9.heap[k]? := fun k C e hC he => hkeep k (Array.getElem?_eq_some_iff.1 hC).1 fun e' => by
    rw [e', hb.box] at hC
    injection hC with hC
    injection hC with _ hC _
    exact he hC.symm
  have hbx := (i6 b (by omega)).trans hrm.box
  rw [if_pos rfl, if_pos rfl] at hbx
  have hlen : (sqS s1).t.length = L := by rw [length_sq, hL]
  have hlt8 := hk9.size
  have hKw : Keeps base K w10 wr := ⟨⟨i2.trans hrm.os, i3.trans hrm.tape, i4.trans hrm.output, by rw [i5]; exact hrm.size, fun k hk => (i6 k (by omega)).trans (hrm.keep k (by omega) (by omega))⟩, fun k hk => (i6 k (by have := hfree.lt k hk; omega)).trans (hrm.keep k (by have := hfree.lt k hk; omega) (fun e => hfree.box (e ▸ hk)))⟩
  refine ⟨⟨fun i => bl8 ((liv s1).getD i 0), cs, hbb, idP L L, .slice A9 L c9, .slice (some ⟨w10.heap.size, 0, none⟩) L L, vq9, vk9, ⟨hbx⟩, CoreN.toM (s := sqS s1) ⟨owns_keep hcore.out fun k hk => ?_, fun i hi => ?_, hcore.inj, i1, owns_keep hcore.que fun k hk => ?_, fun i hi e => ?_, hcore.sepQ, fun k e1 e2 => ?_⟩ ⟨by rw [length_idP]; exact hlen.symm, fun x hx => ?_⟩, owns_keep hpr fun k hk => ?_, ⟨fun k hk => ?_, hfree.box, fun k hk hK => ?_, fun k hk hK => ?_, hfree.q, hfree.k, fun i hi => ?_⟩⟩, (hk9.trans hk10).trans hKw⟩
  · obtain ⟨-, C, hC⟩ := owns_block hcore.out k hk
    exact hkt k C 24 hC (by decide)
  · obtain ⟨a, x, y⟩ := hcore.row i hi
    obtain ⟨C, hC, -⟩ := id x
    exact ⟨a, x.keep (hkt _ C 3 hC (by decide)), y⟩
  · obtain ⟨-, C, hC⟩ := owns_block hcore.que k hk
    exact hkt k C 3 hC (by decide)
  · obtain ⟨-, ⟨C, hC, -⟩, -⟩ := hcore.row i hi
    have h1 := (Array.getElem?_eq_some_iff.1 hC).1
    have h2 : w10.heap.size = bl8 ((liv s1).getD i 0) := Option.some.inj e
    omega
  · obtain ⟨-, C, hC⟩ := owns_block hcore.que k e2
    have h1 := (Array.getElem?_eq_some_iff.1 hC).1
    have h2 : w10.heap.size = k := Option.some.inj e1
    omega
  · rw [hlen] at hx
    rw [rp_sq (by rw [← hL]; exact hx)]
    exact .here (by rw [idP_getD hx, if_pos hx])
  · obtain ⟨-, C, hC⟩ := owns_block2 hpr k hk
    exact hkt k C 109 hC (by decide)
  · have h1 := hfree.lt k hk
    have h2 := hKw.size
    omega
  · have h1 := hnew k hk
    have h2 := hfree.lt k hK
    omega
  · have h1 : w10.heap.size = k := Option.some.inj hk
    have h2 := hfree.lt k hK
    omega
  · exact hfree.row _ (by rw [← hn]; exact (liv_at (s := s1) (by rw [← hL, ← hlen]; exact hi)).1)
set_option maxRecDepth 100000 in
set_option maxHeartbeats 1000000 in
theorem room201_full (K : Nat → Prop) (vr : Value) (g m base b lim : Nat) (hm : m = 2 * g) (w : World) (x : LS) (rels : List W) (hS : LkF K vr g base b m lim w x) (hG : LGood g lim x) (hbw : base ≤ w.heap.size) (hx : x.r < x.s.t.length) (hl : lim ≤ x.s.t.length) (h50 : x.looks < 50)
    (hv : ∀ W, Keeps base K w W → Tab W vr rels) (hr : ∀ j, LOk g (rels.getD j [])) (hwl : ∀ j, (rels.getD j []).length ≤ 1000000) :
    Calls Try.prog 201 #[.pointer (some ⟨b, 0, none⟩)] w fun e w' => ((∃ y, roomL m rels x = some y ∧ e = .returned (.bool true) ∧ LkF K vr g base b m lim w' y) ∨ (roomL m rels x = none ∧ e = .panicked fullF)) ∧ Keeps base K w w' := by
  obtain ⟨k, hst, hF, hrm⟩ := hS
  obtain ⟨c0, c1, ⟨A, c, c2⟩, c6, c8, c9, c10, c11, c12, hfr⟩ := hst.look
  have hf12 := hfr 12
  have hlI : ¬ (x.s.t.length : Int) < (lim : Int) := by omega
  have hn0 : (0 : Int) ≤ (x.s.t.length : Int) := Int.natCast_nonneg _
  have hn3 : x.s.t.length ≤ 1000 := hF.n
  have hnm : (x.s.t.length : Int) ≤ 1000 := by omega
  have hlk0 : (0 : Int) ≤ (x.looks : Int) := Int.natCast_nonneg _
  have hlk1 : (x.looks : Int) < 50 := by omega
  have d50 : ((x.looks : Int) == 50) = false := by rw [beq_eq_false_iff_ne]; omega
  have HTY : Hid (TyF 176) := Lib.hid ⟨by decide, by decide, by decide⟩
  have HST := Lib.hid hst
  have HF := Lib.hid hF
  have HG := Lib.hid hG
  have HV := Lib.hid hv
  have HR := Lib.hid hr
  have HWL := Lib.hid hwl
  have HBW := Lib.hid hbw
  have HM := Lib.hid hm
  have HRMV := Lib.hid hrm
  have HRL : Hid (roomL m rels x = if (lkTo m rels x.s.t.length x.s).live = x.s.t.length then none else some ⟨sqS (lkTo m rels x.s.t.length x.s), num (lkTo m rels x.s.t.length x.s) x.r, decide ((lkTo m rels x.s.t.length x.s).rp x.r ≠ x.r), x.removed + (x.s.t.length - (liv (lkTo m rels x.s.t.length x.s)).length), x.looks + 1⟩) := Lib.hid (by unfold roomL; rw [if_neg (by omega)])
  clear hst hF hG hv hr hwl hm hrm
  go_enter Try.func201, Try.ntmps201
  go_wp2_with fail
  go_quiet (fail)
  go_wp2_with fail
  have hs5 : StF K 176 (exL vr x.r x.lost x.removed (x.looks + 1)) base b m lim ((w.drewN nq).setCell ⟨b, 12, none⟩ (.int .i64 ((x.looks : Int) + 1))) ⟨x.s, k⟩ ∧ Keeps base K w ((w.drewN nq).setCell ⟨b, 12, none⟩ (.int .i64 ((x.looks : Int) + 1))) := by
    obtain ⟨bl, cs, h0⟩ := HST.out
    obtain ⟨h1, h2⟩ := (h0.below (below_drewN (Below.refl _ _) nq)).setEx HTY.out (k := 4) (by simp [exL]) (.int .i64 ((x.looks : Int) + 1))
    exact ⟨⟨bl, cs, h1⟩, Keeps.trans (w1 := w.drewN nq) ⟨below_drewN (Below.refl _ _) _, fun _ _ => rfl⟩ h2⟩
  generalize (w.drewN nq).setCell ⟨b, 12, none⟩ (.int .i64 ((x.looks : Int) + 1)) = w5 at *
  have HS5 := Lib.hid hs5.1
  have HK5 := Lib.hid hs5.2
  have HCT : Hid (∀ r, r ≤ x.s.t.length → FExt g ⟨x.s, k⟩ (chkTo m rels r ⟨x.s, k⟩)) := Lib.hid fun r hr => by
    rw [HM.out]; exact chkTo_F (fun j _ => HR.out j) HF.out.rest r hr
  clear hs5 c0 c1 c2 c6 c8 c9 c10 c11 c12 hfr hf12
  generalize hnn : x.s.t.length = n at *
  have HNN := Lib.hid hnn
  clear hnn
  rw [show decide (n < lim) = false from decide_eq_false (by omega)]
  go_loopw [40] (fun i wr => ∃ r : Nat, i = .int .i64 (r : Int) ∧ r ≤ n ∧ Hid (StF K 176 (exL vr x.r x.lost x.removed (x.looks + 1)) base b m lim wr (chkTo m rels r ⟨x.s, k⟩)) ∧ Hid (Keeps base K w wr)) (fun i _ => n - (intOf i).toNat)
  case atStart => exact ⟨0, rfl, Nat.zero_le _, HS5, HK5⟩
  case round =>
    clear HS5 HK5
    obtain ⟨r, rfl, hrn, HS, HK⟩ := hrel
    have hr0 : (0 : Int) ≤ (r : Int) := Int.natCast_nonneg _
    obtain ⟨c0, c1, ⟨A2, cr2, c2⟩, c6, c8, c9, c10, c11, c12, hfr⟩ := HS.out.look
    have hlen : (chkTo m rels r ⟨x.s, k⟩).s.t.length = n := (HCT.out r hrn).n.trans HNN.out
    rw [hlen] at c2
    by_cases hlt : r < n
    · have hrI : (r : Int) < (n : Int) := by omega
      have HSC : Hid (∀ W, Below wr.heap.size wr W → Calls Try.prog 147 #[.pointer (some ⟨b, 0, none⟩), .int .i64 (r : Int), vr] W fun e w' => e = .returned (.tuple #[]) ∧ StF K 176 (exL vr x.r x.lost x.removed (x.looks + 1)) base b m lim w' (chkTo m rels (r + 1) ⟨x.s, k⟩) ∧ Keeps base K w w') := Lib.hid fun W hW => by
        obtain ⟨bl, cs', hs⟩ := HS.out.below hW
        have hkw : Keeps base K w W := HK.out.trans (Keeps.all hW (Nat.le_trans HBW.out HK.out.size) HS.out.open_.choose_spec.choose_spec.lt)
        exact (scans147_any K 176 _ bl cs' g m base b lim r HM.out W (chkTo m rels r ⟨x.s, k⟩) vr rels HTY.out (HF.out.ext (HCT.out r hrn)) hs (Nat.le_trans HBW.out hkw.size) (fun W' hW' => HV.out W' (hkw.trans hW')) (fun j _ => HR.out j) HWL.out (by rw [hlen]; exact hlt)).mono fun e w' ⟨h1, h2, h3⟩ => ⟨h1, ⟨_, _, h2⟩, hkw.trans h3⟩
      clear c0 c1 c2 c6 c9 c10 c11 c12 hfr hlen
      go_wp2_with fail
      go_still_tail 8, (by kernel_rfl)
      go_wp2_with (go_at_call 147; (with_reducible refine (HSC.out _ (Below.refl _ _).drew).mono ?_); rintro e w10 ⟨rfl, hs10, hk10⟩; have HS10 := Lib.hid hs10; have HK10 := Lib.hid hk10; clear hs10 hk10)
      go_roundw
      case rel => exact ⟨r + 1, by go_num, by omega, HS10, HK10⟩
      case measure => simp [intOf]; omega
    · obtain rfl : n = r := by omega
      have HFX := Lib.hid (HF.out.ext (HCT.out n hrn))
      have HSE : Hid ((chkTo m rels n ⟨x.s, k⟩).s = lkTo m rels n x.s) := Lib.hid (chkTo_s m rels n ⟨x.s, k⟩)
      obtain ⟨bl1, cs1, hsb⟩ := HS.out
      obtain ⟨A5, k5, c5, hf5, -, -⟩ := hsb.pairs
      have hup := hsb.unpair HTY.out
      have HUP := Lib.hid hup.1
      have HUK := Lib.hid (HK.out.trans hup.2)
      have HLN := Lib.hid hlen
      have hlv0 := live_nonneg HFX.out.rest.rest
      clear hsb hup hlen hlt HS HK
      rw [HSE.out] at c6 hlv0
      by_cases hlv : (lkTo m rels n x.s).live = (n : Int)
      · have HNO : Hid (roomL m rels x = none) := Lib.hid (by rw [HRL.out, if_pos hlv])
        rw [hlv] at c6
        clear hlv hlv0
        go_wp2_with fail
        go_quiet (fail)
        go_wp2_with fail
        exact ⟨rfl, .inr ⟨HNO.out, rfl⟩, Keeps.trans HUK.out ⟨below_drewN (Below.refl _ _) _, fun _ _ => rfl⟩⟩
      · have HYE : Hid (roomL m rels x = some ⟨sqS (lkTo m rels n x.s), num (lkTo m rels n x.s) x.r, decide ((lkTo m rels n x.s).rp x.r ≠ x.r), x.removed + (n - (liv (lkTo m rels n x.s)).length), x.looks + 1⟩) := Lib.hid (by rw [HRL.out, if_neg hlv])
        have dlv : ((lkTo m rels n x.s).live == (n : Int)) = false := by rw [beq_eq_false_iff_ne]; exact hlv
        clear hlv
        go_wp2_with fail
        go_quiet (fail)
        go_wp2_with fail
        obtain ⟨s1, hs1⟩ : ∃ s1, s1 = lkTo m rels n x.s := ⟨_, rfl⟩
        have hst6 : StF K 176 (exL vr x.r x.lost x.removed (x.looks + 1)) base b m lim ((wr.setCell ⟨b, 5, none⟩ (.slice none 0 0)).drewN nq) ⟨s1, []⟩ := by
          rw [hs1, ← HSE.out]
          exact ⟨bl1, cs1, HUP.out.below (below_drewN (Below.refl _ _) nq)⟩
        have hk6 : Keeps base K w ((wr.setCell ⟨b, 5, none⟩ (.slice none 0 0)).drewN nq) := Keeps.trans HUK.out ⟨below_drewN (Below.refl _ _) _, fun _ _ => rfl⟩
        have HL1 : Hid (s1.t.length = n) := Lib.hid (by rw [hs1, ← HSE.out]; exact HLN.out)
        generalize (wr.setCell ⟨b, 5, none⟩ (.slice none 0 0)).drewN nq = w6 at *
        obtain ⟨w7, hw7⟩ : ∃ w7, w7 = w6.drew := ⟨_, rfl⟩
        have hst7 : StF K 176 (exL vr x.r x.lost x.removed (x.looks + 1)) base b m lim w7 ⟨s1, []⟩ := by rw [hw7]; exact hst6.below (Below.refl _ _).drew
        have hk7 : Keeps base K w w7 := by rw [hw7]; exact hk6.drew
        obtain ⟨-, -, -, -, -, q9, q10, -, -, qf⟩ := hst7.look
        have HC9 := Lib.hid q9
        have HC10 := Lib.hid q10
        have HF10 := Lib.hid (qf 10)
        have HST7 := Lib.hid hst7
        have HK7 := Lib.hid hk7
        have HALV : Hid (Calls Try.prog 198 #[.pointer (some ⟨b, 0, none⟩), .int .i64 (x.r : Int)] w7 fun e w' => e = .returned (.bool (decide (s1.rp x.r = x.r))) ∧ w' = w7) := Lib.hid (by
          obtain ⟨bl, cs', hs⟩ := HST7.out
          exact alive198_any K 176 _ bl cs' base b m lim x.r w7 ⟨s1, []⟩ hs (by show x.r < s1.t.length; rw [HL1.out]; exact hx))
        clear q9 q10 qf hst6 hst7 hk6 hk7 c0 c1 c2 c5 c6 c8 c9 c10 c11 c12 hf5 hfr HUP HUK
        refine (wpIn_wide (n := 3)).1 ?_
        refine wpIn_region_all (by kernel_rfl) 13 rfl (fun i => if i < 12 then some (71 + i) else none) (lex_of (by kernel_rfl)) (fun ls W => (ls 12 = false → W = w7) ∧ (ls 12 = true → W = w7.setCell ⟨b, 10, none⟩ (.bool (!(decide (s1.rp x.r = x.r))))))
          (fun i v _ => v = ([.pointer (some ⟨b, 0, none⟩), .pointer (some ⟨b, 0, none⟩), .pointer (some ⟨b, 0, none⟩), .pointer (some ⟨b, 0, none⟩), .pointer (some ⟨b, 0, none⟩), .pointer (some ⟨b, 0, none⟩), .pointer (some ⟨b, 9, none⟩), .int .i64 (x.r : Int), .bool (decide (s1.rp x.r = x.r)), .bool (!(decide (s1.rp x.r = x.r))), .pointer (some ⟨b, 0, none⟩), .pointer (some ⟨b, 10, none⟩), undef] : List Value).getD i undef) (fun _ _ _ => True) (dm_inj (by kernel_rfl)) (fun _ _ _ _ _ _ _ _ _ h => h) (dm_lt (n := 147) (by kernel_rfl)) ⟨fun _ => hw7.symm, (fun h => by cases h)⟩ ?_ ?_
        · intro ls q o a w8 hq ho hS2 hls hcl hP hpre
          have hcases : q = 0 ∨ q = 1 ∨ q = 2 ∨ q = 3 ∨ q = 4 ∨ q = 5 ∨ q = 6 ∨ q = 7 ∨ q = 8 ∨ q = 9 ∨ q = 10 ∨ q = 11 ∨ q = 12 := by
            have : q < 13 := hq
            omega
          rcases hcases with rfl | rfl | rfl | rfl | rfl | rfl | rfl | rfl | rfl | rfl | rfl | rfl | rfl
          · obtain rfl := Option.some.inj ho
            exact wpOpIn_of rfl rfl (wpW_val (r_move (.tmp 0) rfl (hP.out 0 (dm_out (by kernel_rfl)))) ⟨_, rfl, hS2, trivial, (fun h => by simp at h), rfl⟩)
          · obtain rfl := Option.some.inj ho
            exact wpOpIn_of rfl rfl (wpW_val (r_move (.tmp 0) rfl (hP.out 0 (dm_out (by kernel_rfl)))) ⟨_, rfl, hS2, trivial, (fun h => by simp at h), rfl⟩)
          · obtain rfl := Option.some.inj ho
            exact wpOpIn_of rfl rfl (wpW_val (r_nil (.tmp 72) _ rfl (hpre ⟨1, .data⟩ (by simp) rfl).2) ⟨_, rfl, hS2, trivial, (fun h => by simp at h), rfl⟩)
          · obtain rfl := Option.some.inj ho
            exact wpOpIn_of rfl rfl (wpW_val (r_fld (.tmp 73) _ rfl (hpre ⟨2, .data⟩ (by simp) rfl).2 (fld176_0 b _)) ⟨_, rfl, hS2, trivial, (fun h => by simp at h), rfl⟩)
          · obtain rfl := Option.some.inj ho
            exact wpOpIn_of rfl rfl (wpW_val (r_move (.tmp 0) rfl (hP.out 0 (dm_out (by kernel_rfl)))) ⟨_, rfl, hS2, trivial, (fun h => by simp at h), rfl⟩)
          · obtain rfl := Option.some.inj ho
            exact wpOpIn_of rfl rfl (wpW_val (r_nil (.tmp 75) _ rfl (hpre ⟨4, .data⟩ (by simp) rfl).2) ⟨_, rfl, hS2, trivial, (fun h => by simp at h), rfl⟩)
          · obtain rfl := Option.some.inj ho
            exact wpOpIn_of rfl rfl (wpW_val (r_fld (.tmp 76) _ rfl (hpre ⟨5, .data⟩ (by simp) rfl).2 (fld176_2 b _)) ⟨_, rfl, hS2, trivial, (fun h => by simp at h), rfl⟩)
          · obtain rfl := Option.some.inj ho
            have h12 := not_yet hcl 12 rfl ⟨7, .phase⟩ (by simp) rfl hls
            obtain rfl := hS2.1 h12
            exact wpOpIn_of rfl rfl (wpW_val (r_load1 3 agg3 (.tmp 77) ⟨b, 9, none⟩ rfl (hpre ⟨6, .data⟩ (by simp) rfl).2 HC9.out) ⟨_, rfl, hS2, trivial, (fun h => by simp at h), rfl⟩)
          · obtain rfl := Option.some.inj ho
            have h12 := not_yet hcl 12 rfl ⟨8, .chain⟩ (by simp) rfl hls
            obtain rfl := hS2.1 h12
            exact wpOpIn_of rfl rfl (wpW_call (R := fun v w' => v = .bool (decide (s1.rp x.r = x.r)) ∧ w' = w8) (r_call2 (.tmp 74) (.tmp 78) _ _ _ rfl (hpre ⟨3, .data⟩ (by simp) rfl).2 (hpre ⟨7, .data⟩ (by simp) rfl).2 call198) (HALV.out.mono fun e w' ⟨he, hb⟩ => ⟨_, he, rfl, hb⟩)
              (fun v w'' ⟨hv, hw⟩ => ⟨v, rfl, by rw [hw]; exact hS2, trivial, (fun h => by simp at h), hv⟩))
          · obtain rfl := Option.some.inj ho
            exact wpOpIn_of rfl rfl (wpW_val (r_not (.tmp 79) _ rfl (hpre ⟨8, .data⟩ (by simp) rfl).2) ⟨_, rfl, hS2, trivial, (fun h => by simp at h), rfl⟩)
          · obtain rfl := Option.some.inj ho
            exact wpOpIn_of rfl rfl (wpW_val (r_nil (.tmp 71) _ rfl (hpre ⟨0, .data⟩ (by simp) rfl).2) ⟨_, rfl, hS2, trivial, (fun h => by simp at h), rfl⟩)
          · obtain rfl := Option.some.inj ho
            exact wpOpIn_of rfl rfl (wpW_val (r_fld (.tmp 81) _ rfl (hpre ⟨10, .data⟩ (by simp) rfl).2 (fld176_3 b _)) ⟨_, rfl, hS2, trivial, (fun h => by simp at h), rfl⟩)
          · obtain rfl := Option.some.inj ho
            obtain rfl := hS2.1 hls
            exact wpOpIn_of rfl rfl (wpW_skip (r_store1 4 (.tmp 82) (.tmp 80) ⟨b, 10, none⟩ _ _ rfl (hpre ⟨11, .data⟩ (by simp) rfl).2 (hpre ⟨9, .data⟩ (by simp) rfl).2 rfl HC10.out HF10.out (st4 _ _ _ HC10.out HF10.out)) ⟨undef, rfl, ⟨fun h => by simp at h, fun _ => rfl⟩, trivial, fun _ => rfl, rfl⟩)
        · intro ls a w8 hall hS2 hP hsl
          have hw8 := hS2.2 (hall 12 (by decide))
          obtain ⟨vs, hvs, hfr⟩ := hP.frame 147 rfl
          clear hsl hP hall hS2 hvs
          subst hfr
          dsimp only
          simp only [List.range, List.range.loop, List.map_cons, List.map_nil, List.any_cons, List.any_nil, Nat.reduceAdd, Nat.reduceBEq, Nat.reduceLT, Option.some_beq_some, Option.none_beq_some, Bool.or_false, Bool.false_or, Bool.false_eq_true, if_true, if_false, List.getD_cons_zero, List.getD_cons_succ]
          have hlo : (decide (s1.rp x.r ≠ x.r)) = !(decide (s1.rp x.r = x.r)) := by by_cases h : s1.rp x.r = x.r <;> simp [h]
          have hst8 : StF K 176 (exL vr x.r (!(decide (s1.rp x.r = x.r))) x.removed (x.looks + 1)) base b m lim w8 ⟨s1, []⟩ ∧ Keeps base K w w8 := by
            obtain ⟨bl, cs', hs⟩ := HST7.out
            obtain ⟨h1, h2⟩ := hs.setEx HTY.out (k := 2) (by simp [exL]) (.bool (!(decide (s1.rp x.r = x.r))))
            rw [hw8]
            exact ⟨⟨bl, cs', h1⟩, HK7.out.trans h2⟩
          have HLO := Lib.hid hlo
          obtain ⟨⟨bl8, cs8, hs8⟩, hk8⟩ := hst8
          obtain ⟨-, -, ⟨A8, c8, q2⟩, -⟩ := StF.look ⟨bl8, cs8, hs8⟩
          have HS8 := Lib.hid hs8
          have HK8 := Lib.hid hk8
          have HR1 : Hid (Ct.Rest g s1) := Lib.hid (by rw [hs1, ← HSE.out]; exact HFX.out.rest.rest)
          have hsz8 : base ≤ w8.heap.size := Nat.le_trans HBW.out hk8.size
          have HSQ := Lib.hid (squeeze148_any K 176 _ bl8 cs8 g m base b lim HM.out HF.out.g1 HF.out.g16 w8 ⟨s1, []⟩ HR1.out hs8 hsz8 (by show s1.t.length ≤ 100000; rw [HL1.out]; omega) (by show 1 ≤ s1.t.length; rw [HL1.out]; omega))
          have HBW8 := Lib.hid hsz8
          have hxI : (x.r : Int) < (s1.t.length : Int) := by rw [HL1.out]; omega
          have hx0 : (0 : Int) ≤ (x.r : Int) := Int.natCast_nonneg _
          generalize (!(decide (s1.rp x.r = x.r))) = lost1 at *
          have q2' : w8.cell? ⟨b, 2, none⟩ = some (.slice A8 n c8) := by rw [← HL1.out]; exact q2
          have HS1E := Lib.hid hs1
          clear hs1 hlo hw8 hw7 hs8 hk8 hsz8 q2 HST7 HK7 HC9 HC10 HF10 HALV
          go_wp2_with (go_at_call 148; (refine HSQ.out.mono ?_); rintro e w9 hsp
                       have hco := hsp.core HTY.out HBW8.out HS8.out
                       dsimp only at hco
                       obtain ⟨A9, c9, P9, vr9, vp9, vq9, vk9, rfl, hnum, hcore, hbox, hpr, hbb, hnew, hk9, hfree⟩ := hco
                       have hn9 := hnum.cell (k := x.r) (by rw [length_nmS, HL1.out]; exact hx)
                       rw [nmS_getD s1 _ (by rw [HL1.out]; exact hx), if_pos (by show x.r < s1.t.length; rw [HL1.out]; exact hx)] at hn9
                       have q9 : w9.cell? ⟨b, 9, none⟩ = some (.int .i64 (x.r : Int)) := hbox.more (k := 1) rfl
                       have qf9 := hbox.frozen 9
                       have HCORE := Lib.hid hcore
                       have HBOX := Lib.hid hbox
                       have HPR := Lib.hid hpr
                       have HNEW := Lib.hid hnew
                       have HK9 := Lib.hid hk9
                       have HFREE := Lib.hid hfree
                       clear hsp hnum hcore hbox hpr hnew hk9 hfree)
          obtain ⟨L, hL⟩ : ∃ L, L = (liv s1).length := ⟨_, rfl⟩
          obtain ⟨w10, hw10⟩ : ∃ w10, w10 = (w9.setCell ⟨b, 9, none⟩ (.int .i64 ((num s1 x.r : Nat) : Int))).drew := ⟨_, rfl⟩
          have hbx10 : BoxF 176 (exL vr (num s1 x.r) lost1 x.removed (x.looks + 1)) b m lim w10 s1 vr9 vp9 vq9 vk9 := by
            refine ⟨?_⟩
            have h1 := box_setF HBOX.out.box 9 (.int .i64 ((num s1 x.r : Nat) : Int))
            have h2 := set_appR (C := #[.int .i64 (m : Int), .int .i64 (lim : Int), vr9, vp9, vq9, vk9, .int .i64 s1.live, .int .i64 s1.most]) (ex := exL vr x.r lost1 x.removed (x.looks + 1)) (k := 1) (by simp [exL]) (.int .i64 ((num s1 x.r : Nat) : Int))
            rw [hw10]
            refine h1.trans ?_
            rw [show (9 : Nat) = (#[.int .i64 (m : Int), .int .i64 (lim : Int), vr9, vp9, vq9, vk9, .int .i64 s1.live, .int .i64 s1.most] : Array Value).size + 1 from rfl, h2]
            rfl
          have hb10 : b < w10.heap.size := hbx10.lt
          have HBX10 := Lib.hid hbx10
          have hL3 : L ≤ 1000 := by
            have h1 := liv_le s1
            rw [HL1.out] at h1
            omega
          have HW10 := Lib.hid hw10
          have hroom : RoomS b m lim L (exL vr (num s1 x.r) lost1 x.removed (x.looks + 1)) s1 (.slice A9 L c9) vr9 vp9 vq9 vk9 w10 false false false w10 := ⟨rfl, rfl, rfl, Nat.le_refl _, fun _ _ _ => rfl, fun _ => rfl, (fun e => by cases e), hbx10.box⟩
          rw [← hL]
          refine (wpIn_wide (n := 3)).1 ?_
          refine wpIn_region_all (by kernel_rfl) 14 rfl (fun i => ([some 106, some 107, some 108, some 109, some 110, some 111, some 112, some 113, some 114, none, some 115, some 116, some 117, none] : List (Option Nat)).getD i none) (lex_of (by kernel_rfl)) (fun ls W => RoomS b m lim L (exL vr (num s1 x.r) lost1 x.removed (x.looks + 1)) s1 (.slice A9 L c9) vr9 vp9 vq9 vk9 w10 (ls 5) (ls 9) (ls 13) W)
            (fun i v _ => v = ([.pointer (some ⟨b, 0, none⟩), .pointer (some ⟨b, 0, none⟩), .slice A9 L c9, .slice A9 L c9, .int .i64 (L : Int), .slice (some ⟨w10.heap.size, 0, none⟩) L L, .pointer (some ⟨b, 0, none⟩), .pointer (some ⟨b, 0, none⟩), .pointer (some ⟨b, 2, none⟩), undef, .pointer (some ⟨b, 0, none⟩), .pointer (some ⟨b, 0, none⟩), .pointer (some ⟨b, 3, none⟩), undef] : List Value).getD i undef) (fun _ _ _ => True) (dm_inj (by kernel_rfl)) (fun _ _ _ _ _ _ _ _ _ h => h) (dm_lt (n := 147) (by kernel_rfl)) (by rw [← hw10]; exact hroom) ?_ ?_
          · intro ls q o a w11 hq ho hS2 hls hcl hP hpre
            have hcases : q = 0 ∨ q = 1 ∨ q = 2 ∨ q = 3 ∨ q = 4 ∨ q = 5 ∨ q = 6 ∨ q = 7 ∨ q = 8 ∨ q = 9 ∨ q = 10 ∨ q = 11 ∨ q = 12 ∨ q = 13 := by
              have : q < 14 := hq
              omega
            rcases hcases with rfl | rfl | rfl | rfl | rfl | rfl | rfl | rfl | rfl | rfl | rfl | rfl | rfl | rfl
            · obtain rfl := Option.some.inj ho
              exact wpOpIn_of rfl rfl (wpW_val (r_move (.tmp 0) rfl (hP.out 0 (dm_out (by kernel_rfl)))) ⟨_, rfl, hS2, trivial, (fun h => by simp at h), rfl⟩)
            · obtain rfl := Option.some.inj ho
              exact wpOpIn_of rfl rfl (wpW_val (r_move (.tmp 0) rfl (hP.out 0 (dm_out (by kernel_rfl)))) ⟨_, rfl, hS2, trivial, (fun h => by simp at h), rfl⟩)
            · obtain rfl := Option.some.inj ho
              exact wpOpIn_of rfl rfl (wpW_val (r_move (.tmp 6) rfl (hP.out 6 (dm_out (by kernel_rfl)))) ⟨_, rfl, hS2, trivial, (fun h => by simp at h), rfl⟩)
            · obtain rfl := Option.some.inj ho
              exact wpOpIn_of rfl rfl (wpW_val (r_move (.tmp 6) rfl (hP.out 6 (dm_out (by kernel_rfl)))) ⟨_, rfl, hS2, trivial, (fun h => by simp at h), rfl⟩)
            · obtain rfl := Option.some.inj ho
              exact wpOpIn_of rfl rfl (wpW_val (r_len (.tmp 109) 22 A9 L c9 Try.underlying22 rfl (hpre ⟨3, .data⟩ (by simp) rfl).2) ⟨_, rfl, hS2, trivial, (fun h => by simp at h), rfl⟩)
            · obtain rfl := Option.some.inj ho
              have h5 : ls 5 = false := hls
              rw [h5] at hS2
              have hsz := hS2.fresh rfl
              exact wpOpIn_of rfl rfl (wpW_val (r_make 24 (.tmp 110) (.tmp 110) rfl (hpre ⟨4, .data⟩ (by simp) rfl).2 (hpre ⟨4, .data⟩ (by simp) rfl).2 (make24r w11 L (by omega))) ⟨_, rfl, hS2.make, trivial, (fun h => by simp at h), by rw [hsz]; rfl⟩)
            · obtain rfl := Option.some.inj ho
              exact wpOpIn_of rfl rfl (wpW_val (r_nil (.tmp 106) _ rfl (hpre ⟨0, .data⟩ (by simp) rfl).2) ⟨_, rfl, hS2, trivial, (fun h => by simp at h), rfl⟩)
            · obtain rfl := Option.some.inj ho
              exact wpOpIn_of rfl rfl (wpW_val (r_fld (.tmp 112) _ rfl (hpre ⟨6, .data⟩ (by simp) rfl).2 (fld176_0 b _)) ⟨_, rfl, hS2, trivial, (fun h => by simp at h), rfl⟩)
            · obtain rfl := Option.some.inj ho
              exact wpOpIn_of rfl rfl (wpW_val (r_fld (.tmp 113) _ rfl (hpre ⟨7, .data⟩ (by simp) rfl).2 (fld151_2 b _)) ⟨_, rfl, hS2, trivial, (fun h => by simp at h), rfl⟩)
            · obtain rfl := Option.some.inj ho
              have h9 : ls 9 = false := hls
              rw [h9] at hS2
              have hcx : w11.cell? ⟨b, 2, none⟩ = some vr9 := by rw [cell_of_row _ _ _ _ _ _ hS2.box]; simp
              have hfx : w11.frozen? ⟨b, 2, none⟩ = false := by simp [World.frozen?, hS2.box]
              exact wpOpIn_of rfl rfl (wpW_skip (r_store1 22 (.tmp 114) (.tmp 108) ⟨b, 2, none⟩ vr9 _ rfl (hpre ⟨8, .data⟩ (by simp) rfl).2 (hpre ⟨2, .data⟩ (by simp) rfl).2 rfl hcx hfx (st22 _ vr9 A9 L c9 hcx hfx)) ⟨undef, rfl, hS2.store9 hb10, trivial, fun _ => rfl, rfl⟩)
            · obtain rfl := Option.some.inj ho
              exact wpOpIn_of rfl rfl (wpW_val (r_nil (.tmp 107) _ rfl (hpre ⟨1, .data⟩ (by simp) rfl).2) ⟨_, rfl, hS2, trivial, (fun h => by simp at h), rfl⟩)
            · obtain rfl := Option.some.inj ho
              exact wpOpIn_of rfl rfl (wpW_val (r_fld (.tmp 115) _ rfl (hpre ⟨10, .data⟩ (by simp) rfl).2 (fld176_0 b _)) ⟨_, rfl, hS2, trivial, (fun h => by simp at h), rfl⟩)
            · obtain rfl := Option.some.inj ho
              exact wpOpIn_of rfl rfl (wpW_val (r_fld (.tmp 116) _ rfl (hpre ⟨11, .data⟩ (by simp) rfl).2 (fld151_3 b _)) ⟨_, rfl, hS2, trivial, (fun h => by simp at h), rfl⟩)
            · obtain rfl := Option.some.inj ho
              have h13 : ls 13 = false := hls
              rw [h13] at hS2
              have hcx : w11.cell? ⟨b, 3, none⟩ = some vp9 := by rw [cell_of_row _ _ _ _ _ _ hS2.box]; simp
              have hfx : w11.frozen? ⟨b, 3, none⟩ = false := by simp [World.frozen?, hS2.box]
              exact wpOpIn_of rfl rfl (wpW_skip (r_store1 24 (.tmp 117) (.tmp 111) ⟨b, 3, none⟩ vp9 _ rfl (hpre ⟨12, .data⟩ (by simp) rfl).2 (hpre ⟨5, .data⟩ (by simp) rfl).2 rfl hcx hfx (st24 _ vp9 _ L L hcx hfx)) ⟨undef, rfl, hS2.store13 hb10, trivial, fun _ => rfl, rfl⟩)
          · intro ls a w11 hall hS2 hP hsl
            rw [hall 5 (by decide), hall 9 (by decide), hall 13 (by decide)] at hS2
            obtain ⟨vs, hvs, hfr⟩ := hP.frame 147 rfl
            have HRM := Lib.hid hS2
            clear hsl hP hall hS2 hvs
            subst hfr
            dsimp only
            simp only [List.range, List.range.loop, List.map_cons, List.map_nil, List.any_cons, List.any_nil, Nat.reduceBEq, Option.some_beq_some, Option.none_beq_some, Bool.or_false, Bool.false_or, Bool.false_eq_true, if_true, if_false, List.getD_cons_zero, List.getD_cons_succ]
            obtain ⟨G, hG⟩ : ∃ G, G = w10.heap.size := ⟨_, rfl⟩
            have hb9 : base ≤ G := by
              rw [hG, HW10.out]
              exact Nat.le_trans (Nat.le_trans HBW8.out (Nat.le_of_eq rfl)) (by
                have := HK9.out.size
                show w8.heap.size ≤ (w9.setCell ⟨b, 9, none⟩ (.int .i64 ((num s1 x.r : Nat) : Int))).heap.size
                simpa [World.setCell] using this)
            have hown0 : OwnI base w11 (.slice (some ⟨G, 0, none⟩) L L) (idP L 0) := by
              rw [idP_zero]
              exact own_repl hb9 hL3 (by rw [hG]; exact HRM.out.made rfl)
            have hbG : b < G := by rw [hG]; exact hb10
            have HBOX11 : Hid (w11.heap[b]? = some (.cells (#[.int .i64 (m : Int), .int .i64 (lim : Int), .slice A9 L c9, .slice (some ⟨G, 0, none⟩) L L, vq9, vk9, .int .i64 s1.live, .int .i64 s1.most] ++ (exL vr (num s1 x.r) lost1 x.removed (x.looks + 1)).toArray) 176 (0, 0))) := Lib.hid (by rw [hG]; exact HRM.out.box)
            have HOWN0 := Lib.hid hown0
            have HGG := Lib.hid hG
            have hcb : ∀ W : World, W.heap[b]? = w11.heap[b]? → W.cell? ⟨b, 3, none⟩ = some (.slice (some ⟨G, 0, none⟩) L L) ∧ W.cell? ⟨b, 11, none⟩ = some (.int .i64 (x.removed : Int)) ∧ W.frozen? ⟨b, 11, none⟩ = false := fun W hW => by
              have h1 := hW.trans HBOX11.out
              refine ⟨?_, ?_, ?_⟩
              · rw [cell_of_row _ _ _ _ _ _ h1]; rfl
              · rw [cell_of_row _ _ _ _ _ _ h1]; rfl
              · simp [World.frozen?, h1]
            have HCB := Lib.hid hcb
            have hq3 := (hcb w11 rfl).1
            have hLI0 : (0 : Int) ≤ (L : Int) := Int.natCast_nonneg _
            have hLI1 : (L : Int) ≤ 1000 := by omega
            clear hown0 hG hcb
            go_wp2_with fail
            go_loopw [124] (fun i wx => ∃ r : Nat, i = .int .i64 (r : Int) ∧ r ≤ L ∧ Hid (OwnI base wx (.slice (some ⟨G, 0, none⟩) L L) (idP L r) ∧ wx.os = w11.os ∧ wx.tape = w11.tape ∧ wx.output = w11.output ∧ wx.heap.size = w11.heap.size ∧ ∀ k, k ≠ G → wx.heap[k]? = w11.heap[k]?)) (fun i _ => L - (intOf i).toNat)
            case atStart => exact ⟨0, rfl, Nat.zero_le _, Lib.hid ⟨HOWN0.out, rfl, rfl, rfl, rfl, fun _ _ => rfl⟩⟩
            case round =>
              clear hq3 HOWN0
              obtain ⟨r, rfl, hr, HI⟩ := hrel
              have hr0 : (0 : Int) ≤ (r : Int) := Int.natCast_nonneg _
              obtain ⟨q3, q11, qf11⟩ := HCB.out wr (HI.out.2.2.2.2.2 b (by omega))
              by_cases hlt : r < L
              · have hrI : (r : Int) < (L : Int) := by omega
                obtain ⟨g1, c1', e1, -, -, hcc, hff⟩ := ownI_cell HI.out.1 (by rw [length_idP]; omega)
                injection e1 with e1 _ _
                injection e1 with e1
                injection e1 with e1
                subst e1
                have hck := hcc r (by rw [length_idP]; exact hlt)
                have hfk := hff r
                have HN : Hid (OwnI base (wr.setCell ⟨G, r, none⟩ (.int .i64 (r : Int))) (.slice (some ⟨G, 0, none⟩) L L) (idP L (r + 1)) ∧ (wr.setCell ⟨G, r, none⟩ (.int .i64 (r : Int))).os = w11.os ∧ (wr.setCell ⟨G, r, none⟩ (.int .i64 (r : Int))).tape = w11.tape ∧ (wr.setCell ⟨G, r, none⟩ (.int .i64 (r : Int))).output = w11.output ∧ (wr.setCell ⟨G, r, none⟩ (.int .i64 (r : Int))).heap.size = w11.heap.size ∧ ∀ k, k ≠ G → (wr.setCell ⟨G, r, none⟩ (.int .i64 (r : Int))).heap[k]? = w11.heap[k]?) := Lib.hid (by
                  obtain ⟨a1, a2, a3, a4, a5, a6⟩ := HI.out
                  refine ⟨?_, a2, a3, a4, by simpa [World.setCell] using a5, fun k hk => (Below.heap_setCell wr ⟨G, r, none⟩ _ k hk).trans (a6 k hk)⟩
                  have h1 := ownI_set a1 (g := G) rfl (k := r) (by rw [length_idP]; exact hlt) (r : Int)
                  rwa [← idP_succ hlt] at h1)
                clear hcc hff q11 qf11
                go_wp2_with fail
                go_roundw
                case rel => exact ⟨r + 1, by go_num, by omega, HN⟩
                case measure => simp [intOf]; omega
              · obtain rfl : L = r := by omega
                have hcore2 := HCORE.out
                rw [← hL] at hcore2
                have hend := room_end (g := g) HR1.out hL hcore2 HPR.out HBOX.out HS8.out.1 HBW8.out (by rw [hL]; exact HNEW.out) HK9.out HFREE.out rfl HW10.out HRM.out (by have h := HI.out; rw [HGG.out] at h; exact h)
                have HST9 := Lib.hid hend.1
                have HKK9 := Lib.hid (HK8.out.trans hend.2)
                have hLn : L ≤ n := by
                  have h1 := liv_le s1
                  rw [HL1.out] at h1
                  omega
                have hnI : (n : Int) ≤ 1000 := by omega
                have hn00 : (0 : Int) ≤ (n : Int) := Int.natCast_nonneg _
                have hrm0 : (0 : Int) ≤ (x.removed : Int) := Int.natCast_nonneg _
                have hrm1 : (x.removed : Int) ≤ 50000 := by have := HRMV.out; omega
                have HLN := Lib.hid hLn
                clear hcore2 hend
                go_wp2_with fail
                go_ret
                obtain ⟨bl9, cs9, hs9⟩ := HST9.out
                have e11 : (x.removed : Int) + ((n : Int) - ((liv s1).length : Int)) = ((x.removed + (n - L) : Nat) : Int) := by
                  rw [← hL]
                  have := HLN.out
                  omega
                obtain ⟨h1, h2⟩ := hs9.setEx HTY.out (k := 3) (by simp [exL]) (.int .i64 ((x.removed : Int) + ((n : Int) - ((liv s1).length : Int))))
                refine ⟨.inl ⟨⟨sqS s1, num s1 x.r, lost1, x.removed + (n - L), x.looks + 1⟩, ?_, rfl, ?_⟩, HKK9.out.trans h2⟩
                · rw [HYE.out, ← HS1E.out, HLO.out, hL]
                · rw [e11] at h1 ⊢
                  refine ⟨[], ⟨bl9, cs9, h1⟩, fine_any HF.out.g1 HF.out.g16 (Ct.Rest.sq HR1.out) (by rw [length_sq, ← hL]; exact hL3), ?_⟩
                  show x.removed + (n - L) ≤ 1000 * (x.looks + 1)
                  have := HRMV.out
                  omega
end Go.Proofs
