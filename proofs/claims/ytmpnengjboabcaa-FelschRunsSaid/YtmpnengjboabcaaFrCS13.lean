/- The reference's state of Felsch's strategy in memory; The reference of Felsch's strategy: rep, merge; The reference of Felsch's strategy: what writes leave; set. -/
import Derived.Test.YtmpnengjboabcaaFrCS12
import Derived.Test.YtmpnengjboabcaaFrCS8
namespace Go.Proofs
open Go.RowKit Go.Shelf Go.Proofs.Ct Go.Maps
/-- the state of the reference: its box b, of type T; wv: the words -/
structure BoxG (T : TypeId) (wv : Value) (b lim : Nat) (w : World) (s : St) (vr vp vq vk : Value) : Prop where
  box : w.heap[b]? = some (.cells #[vr, vp, vq, vk, wv, .int .i64 (lim : Int), .int .i64 s.live, .int .i64 s.most] T (0, 0))
section
variable {T : TypeId} {wv : Value} {b lim : Nat} {w w' : World} {s s' : St} {vr vp vq vk : Value}
theorem BoxG.cells (h : BoxG T wv b lim w s vr vp vq vk) : w.cell? ⟨b, 4, none⟩ = some wv ∧ w.cell? ⟨b, 5, none⟩ = some (.int .i64 (lim : Int)) ∧ w.cell? ⟨b, 0, none⟩ = some vr ∧ w.cell? ⟨b, 1, none⟩ = some vp ∧ w.cell? ⟨b, 2, none⟩ = some vq ∧ w.cell? ⟨b, 3, none⟩ = some vk ∧ w.cell? ⟨b, 6, none⟩ = some (.int .i64 s.live) ∧ w.cell? ⟨b, 7, none⟩ = some (.int .i64 s.most) := by
  have hc := h.box
  refine ⟨?_, ?_, ?_, ?_, ?_, ?_, ?_, ?_⟩ <;> (rw [cell_of_row _ _ _ _ _ _ hc]; simp)
theorem BoxG.lt (h : BoxG T wv b lim w s vr vp vq vk) : b < w.heap.size := (Array.getElem?_eq_some_iff.1 h.box).1
theorem BoxG.below (h : BoxG T wv b lim w s vr vp vq vk) (hb : Below w.heap.size w w') : BoxG T wv b lim w' s vr vp vq vk := ⟨(hb.block _ h.lt).trans h.box⟩
theorem BoxG.other (h : BoxG T wv b lim w s vr vp vq vk) {g : Nat} {T' : TypeId} (hg : ∃ C, w.heap[g]? = some (.cells C T' (0, 0))) (hT : T' ≠ T) (k : Nat) (v : Value) : BoxG T wv b lim (w.setCell ⟨g, k, none⟩ v) s vr vp vq vk :=
  ⟨(Below.heap_setCell w ⟨g, k, none⟩ v b (fun e => by
    obtain ⟨C, hC⟩ := hg
    have e' : b = g := e
    have := h.box
    rw [e', hC] at this
    cases this
    exact hT rfl)).trans h.box⟩
theorem BoxG.frozen (h : BoxG T wv b lim w s vr vp vq vk) (k : Nat) : w.frozen? ⟨b, k, none⟩ = false := by simp [World.frozen?, h.box]
theorem BoxG.of (h : BoxG T wv b lim w s vr vp vq vk) (hl : s'.live = s.live) (hm : s'.most = s.most) : BoxG T wv b lim w s' vr vp vq vk := ⟨by rw [hl, hm]; exact h.box⟩
theorem BoxG.upd0 (h : BoxG T wv b lim w s vr vp vq vk) (v : Value) (hl : s'.live = s.live) (hm : s'.most = s.most) : BoxG T wv b lim (w.setCell ⟨b, 0, none⟩ v) s' v vp vq vk := ⟨by rw [box_setF h.box]; simp [hl, hm]⟩
theorem BoxG.upd1 (h : BoxG T wv b lim w s vr vp vq vk) (v : Value) (hl : s'.live = s.live) (hm : s'.most = s.most) : BoxG T wv b lim (w.setCell ⟨b, 1, none⟩ v) s' vr v vq vk := ⟨by rw [box_setF h.box]; simp [hl, hm]⟩
theorem BoxG.upd2 (h : BoxG T wv b lim w s vr vp vq vk) (v : Value) (hl : s'.live = s.live) (hm : s'.most = s.most) : BoxG T wv b lim (w.setCell ⟨b, 2, none⟩ v) s' vr vp v vk := ⟨by rw [box_setF h.box]; simp [hl, hm]⟩
theorem BoxG.upd3 (h : BoxG T wv b lim w s vr vp vq vk) (v : Value) (hl : s'.live = s.live) (hm : s'.most = s.most) : BoxG T wv b lim (w.setCell ⟨b, 3, none⟩ v) s' vr vp vq v := ⟨by rw [box_setF h.box]; simp [hl, hm]⟩
theorem BoxG.upd6 (h : BoxG T wv b lim w s vr vp vq vk) {z : Int} (hl : s'.live = z) (hm : s'.most = s.most) : BoxG T wv b lim (w.setCell ⟨b, 6, none⟩ (.int .i64 z)) s' vr vp vq vk := ⟨by rw [box_setF h.box]; simp [hl, hm]⟩
theorem BoxG.upd7 (h : BoxG T wv b lim w s vr vp vq vk) {z : Int} (hl : s'.live = s.live) (hm : s'.most = z) : BoxG T wv b lim (w.setCell ⟨b, 7, none⟩ (.int .i64 z)) s' vr vp vq vk := ⟨by rw [box_setF h.box]; simp [hl, hm]⟩
theorem BoxG.grown (h : BoxG T wv b lim w s vr vp vq vk) {o : Option Nat} (hg : w.grownBy w' o) (hn : o ≠ some b) : BoxG T wv b lim w' s vr vp vq vk := ⟨(hg.block b h.lt (Ne.symm hn)).trans h.box⟩
end
/-- the program's state in memory; bl, cs: the rows' blocks and capacities -/
def StGB (K : Nat → Prop) (T : TypeId) (wv : Value) (bl cs : Nat → Nat) (base b lim : Nat) (w : World) (f : FS) : Prop := base ≤ b ∧ ∃ P vr vp vq vk, BoxG T wv b lim w f.s vr vp vq vk ∧ CoreM base w f.s P vr vp vq bl cs ∧ OwnC base w vk f.k ∧ Free K w b vr vp vq vk bl f.s.t.length
def StG (K : Nat → Prop) (T : TypeId) (wv : Value) (base b lim : Nat) (w : World) (f : FS) : Prop := ∃ bl cs, StGB K T wv bl cs base b lim w f
theorem StGB.lt {K : Nat → Prop} {T : TypeId} {wv : Value} {bl cs : Nat → Nat} {base b lim : Nat} {w : World} {f : FS} (h : StGB K T wv bl cs base b lim w f) : ∀ k, K k → k < w.heap.size := by
  obtain ⟨-, P, vr, vp, vq, vk, -, -, -, hF⟩ := h
  exact hF.lt
theorem StGB.below {K : Nat → Prop} {T : TypeId} {wv : Value} {bl cs : Nat → Nat} {base b lim : Nat} {w w' : World} {f : FS} (hS : StGB K T wv bl cs base b lim w f) (h : Below w.heap.size w w') : StGB K T wv bl cs base b lim w' f := by
  obtain ⟨hb, P, vr, vp, vq, vk, hB, hC, hK, hF⟩ := hS
  exact ⟨hb, P, vr, vp, vq, vk, hB.below h, hC.below h, owns_below hK h, hF.mono h.size⟩
theorem CoreM.ne_boxG {T : TypeId} {wv : Value} {bl cs : Nat → Nat} {base b lim : Nat} {w : World} {s s' : St} {P : List Int} {vr vp vq v1 v2 v3 v4 : Value} (hT : TyF T) (h : CoreM base w s P vr vp vq bl cs) (hB : BoxG T wv b lim w s' v1 v2 v3 v4) : vp.ownBlock ≠ some b ∧ vq.ownBlock ≠ some b ∧ vr.ownBlock ≠ some b ∧ ∀ i, i < s.t.length → bl i ≠ b := by
  refine ⟨fun e => ?_, fun e => ?_, fun e => ?_, fun i hi e => ?_⟩
  · obtain ⟨-, C, hC⟩ := owns_block h.par b e
    rw [hB.box] at hC
    cases hC
    exact hT.a rfl
  · obtain ⟨-, C, hC⟩ := owns_block h.que b e
    rw [hB.box] at hC
    cases hC
    exact hT.a rfl
  · obtain ⟨-, C, hC⟩ := owns_block h.out b e
    rw [hB.box] at hC
    cases hC
    exact hT.b rfl
  · obtain ⟨-, ⟨C, hC, -⟩, -⟩ := h.row i hi
    rw [e, hB.box] at hC
    cases hC
    exact hT.a rfl
theorem OwnC.ne_boxG {T : TypeId} {wv : Value} {base b lim : Nat} {w : World} {s' : St} {ps : List (Nat × Nat)} {v v1 v2 v3 v4 : Value} (hT : TyF T) (h : OwnC base w v ps) (hB : BoxG T wv b lim w s' v1 v2 v3 v4) : v.ownBlock ≠ some b := fun e => by
  obtain ⟨-, C, hC⟩ := owns_block2 h b e
  rw [hB.box] at hC
  cases hC
  exact hT.c rfl
/-- an element of the rows -/
theorem StGB.at_ {K : Nat → Prop} {T : TypeId} {wv : Value} {bl cs : Nat → Nat} {g base b lim : Nat} {w : World} {f : FS} (hI : Inv g f.s) (hS : StGB K T wv bl cs base b lim w f) {r c : Nat} (hr : r < f.s.t.length) (hc : c < 2 * g) : ∃ gr cr, w.cell? ⟨b, 0, none⟩ = some (.slice (some ⟨gr, 0, none⟩) f.s.t.length cr) ∧ w.cell? ⟨gr, r, none⟩ = some (.slice (some ⟨bl r, 0, none⟩) (2 * g) (cs r)) ∧ w.cell? ⟨bl r, c, none⟩ = some (.int .i64 (f.s.t.at r c)) := by
  obtain ⟨-, P, vr, vp, vq, vk, hB, hC, -⟩ := hS
  obtain ⟨gr, cr, rfl, r1, r2, r3⟩ := hC.at_ hr (c := c) (by rw [hI.len r hr]; exact hc)
  rw [hI.len r hr] at r1
  exact ⟨gr, cr, hB.cells.2.2.1, r1, r2⟩
theorem StGB.que {K : Nat → Prop} {T : TypeId} {wv : Value} {bl cs : Nat → Nat} {base b lim : Nat} {w : World} {f : FS} (hS : StGB K T wv bl cs base b lim w f) : ∃ A c, w.cell? ⟨b, 2, none⟩ = some (.slice A f.s.q.length c) ∧ w.frozen? ⟨b, 2, none⟩ = false ∧ (0 < f.s.q.length → ∃ gq, A = some ⟨gq, 0, none⟩ ∧ ∀ k, k < f.s.q.length → w.cell? ⟨gq, k, none⟩ = some (.int .i64 (f.s.q.getD k 0 : Int))) := by
  obtain ⟨hb, P, vr, vp, vq, vk, hB, hC, hK, hF⟩ := hS
  obtain ⟨A, c, rfl⟩ : ∃ A c, vq = .slice A f.s.q.length c := by
    rcases hC.que.2 with ⟨h, h0⟩ | ⟨gq, cap, cur, h, -⟩
    · rw [length_nats] at h0; exact ⟨none, 0, by rw [h0]; exact h⟩
    · rw [length_nats] at h; exact ⟨_, cap, h⟩
  refine ⟨A, c, hB.cells.2.2.2.2.1, hB.frozen 2, fun h0 => ?_⟩
  obtain ⟨gq, cq, e, -, -, hcc, -⟩ := ownI_cell hC.que (by rw [length_nats]; exact h0)
  rw [length_nats] at e hcc
  injection e with e1 e2 e3
  exact ⟨gq, e1, fun k hk => by have := hcc k hk; rwa [nats_getD] at this⟩
/-- the queue is laid down -/
theorem StGB.noque {K : Nat → Prop} {T : TypeId} {wv : Value} {bl cs : Nat → Nat} {base b lim : Nat} {w : World} {f : FS} (hT : TyF T) (hS : StGB K T wv bl cs base b lim w f) : StGB K T wv bl cs base b lim (w.setCell ⟨b, 2, none⟩ (.slice none 0 0)) ⟨{ f.s with q := [] }, f.k⟩ := by
  obtain ⟨hb, P, vr, vp, vq, vk, hB, hC, hK, hF⟩ := hS
  have hC0 : CoreM base w { f.s with q := [] } P vr vp (.slice none 0 0) bl cs :=
    ⟨hC.out, hC.row, hC.inj, hC.par, World.ownsRow_nil _ _ _ _, hC.sepP, fun i hi e => (by cases e), fun r hr e => (by cases e), hC.root.of_rep rfl rfl⟩
  exact ⟨hb, P, vr, vp, _, vk, hB.upd2 (s' := { f.s with q := [] }) _ rfl rfl, hC0.other hB.box hT.a hT.b 2 _, hK.other hB.box hT.c 2 _, ⟨fun k hk => by rw [World.size_setCell]; exact hF.lt k hk, hF.box, hF.r, hF.p, fun k e => (by cases e), hF.k, hF.row⟩⟩
/-- an edge is cut -/
theorem StGB.cut {K : Nat → Prop} {T : TypeId} {wv : Value} {bl cs : Nat → Nat} {g base b lim : Nat} {w : World} {f : FS} (hT : TyF T) (hI : Inv g f.s) (hS : StGB K T wv bl cs base b lim w f) {e c : Nat} (he : e < f.s.t.length) (hc : c < 2 * g) (_hd : 0 ≤ f.s.t.at e c) :
    ∃ gr cr be ke bd kd x2, w.cell? ⟨b, 0, none⟩ = some (.slice (some ⟨gr, 0, none⟩) f.s.t.length cr) ∧ w.cell? ⟨gr, e, none⟩ = some (.slice (some ⟨be, 0, none⟩) (2 * g) ke) ∧ w.cell? ⟨gr, (f.s.t.at e c).toNat, none⟩ = some (.slice (some ⟨bd, 0, none⟩) (2 * g) kd) ∧
      w.cell? ⟨be, c, none⟩ = some (.int .i64 (f.s.t.at e c)) ∧ w.frozen? ⟨be, c, none⟩ = false ∧
      (w.setCell ⟨be, c, none⟩ (.int .i64 (-1))).cell? ⟨b, 0, none⟩ = some (.slice (some ⟨gr, 0, none⟩) f.s.t.length cr) ∧ (w.setCell ⟨be, c, none⟩ (.int .i64 (-1))).cell? ⟨gr, (f.s.t.at e c).toNat, none⟩ = some (.slice (some ⟨bd, 0, none⟩) (2 * g) kd) ∧
      (w.setCell ⟨be, c, none⟩ (.int .i64 (-1))).cell? ⟨bd, flp c, none⟩ = some (.int .i64 x2) ∧ (w.setCell ⟨be, c, none⟩ (.int .i64 (-1))).frozen? ⟨bd, flp c, none⟩ = false ∧
      StGB K T wv bl cs base b lim ((w.setCell ⟨be, c, none⟩ (.int .i64 (-1))).setCell ⟨bd, flp c, none⟩ (.int .i64 (-1))) ⟨{ f.s with t := cutT f.s.t e c }, f.k⟩ ∧ Keeps base K w ((w.setCell ⟨be, c, none⟩ (.int .i64 (-1))).setCell ⟨bd, flp c, none⟩ (.int .i64 (-1))) := by
  obtain ⟨s, k⟩ := f
  simp only at *
  obtain ⟨hb, P, vr, vp, vq, vk, hB, hC, hK, hF⟩ := hS
  simp only at *
  have hdl : (s.t.at e c).toNat < s.t.length := by have := (hI.bd e he c hc).2; omega
  have hle := hI.len e he
  have hld := hI.len _ hdl
  have hf := flp_lt2 hc
  obtain ⟨gr, cr, rfl, r1, r2, r3⟩ := hC.at_ he (c := c) (by omega)
  obtain ⟨gr', cr', e', p1, p2, p3⟩ := hC.at_ hdl (c := flp c) (by omega)
  injection e' with e1 e2 e3
  injection e1 with e1
  injection e1 with e1
  subst e1
  have hC1 := hC.set he (c := c) (by omega) (-1)
  have hbe := hC.row e he
  obtain ⟨Ce, hCe, -⟩ := id hbe.2.1
  have hB1 := hB.other ⟨Ce, hCe⟩ (Ne.symm hT.a) c (.int .i64 (-1))
  have hK1 := hK.other hCe (by decide) c (.int .i64 (-1))
  have hlen1 : ({ s with t := set2 s.t e c (-1) } : St).t.length = s.t.length := length_set2 _ _ _ _
  obtain ⟨gr', cr', e', q1, q2, q3⟩ := hC1.at_ (r := (s.t.at e c).toNat) (c := flp c) (by rw [hlen1]; exact hdl) (by simp only [rowlen_set2]; omega)
  injection e' with e1 e2 e3
  injection e1 with e1
  injection e1 with e1
  subst e1
  have hC2 := hC1.set (r := (s.t.at e c).toNat) (c := flp c) (by rw [hlen1]; exact hdl) (by simp only [rowlen_set2]; omega) (-1)
  have hbd := hC1.row (s.t.at e c).toNat (by rw [hlen1]; exact hdl)
  obtain ⟨Cd, hCd, -⟩ := id hbd.2.1
  have hB2 := hB1.other ⟨Cd, hCd⟩ (Ne.symm hT.a) (flp c) (.int .i64 (-1))
  have hK2 := hK1.other hCd (by decide) (flp c) (.int .i64 (-1))
  simp only [rowlen_set2] at q1
  rw [hld] at q1 p1
  rw [hle] at r1
  exact ⟨gr, cr, bl e, cs e, bl (s.t.at e c).toNat, cs (s.t.at e c).toNat, _, hB.cells.2.2.1, r1, p1, r2, r3, hB1.cells.2.2.1, q1, q2, q3, ⟨hb, P, _, vp, vq, vk, hB2.of rfl rfl, hC2, hK2, ⟨fun k hk => by rw [World.size_setCell, World.size_setCell]; exact hF.lt k hk, hF.box, hF.r, hF.p, hF.q, hF.k, fun i hi => hF.row i (by rwa [length_cut] at hi)⟩⟩, ((Keeps.refl base K w).setCell hbe.1 (hF.row e he) _).setCell hbd.1 (hF.row _ hdl) _⟩
/-- an edge is set, and laid down -/
theorem StGB.join {K : Nat → Prop} {T : TypeId} {wv : Value} {bl cs : Nat → Nat} {g base b lim : Nat} {w : World} {f : FS} (hT : TyF T) (hI : Inv g f.s) (hS : StGB K T wv bl cs base b lim w f) (hbw : base ≤ w.heap.size) {u c v : Nat} (hu : u < f.s.t.length) (hv : v < f.s.t.length) (hc : c < 2 * g) (hk : f.k.length ≤ 1000000000000) :
    ∃ gr cr bu ku bv kv x1 x2 A ck A' ck' w3, w.cell? ⟨b, 0, none⟩ = some (.slice (some ⟨gr, 0, none⟩) f.s.t.length cr) ∧ w.cell? ⟨gr, u, none⟩ = some (.slice (some ⟨bu, 0, none⟩) (2 * g) ku) ∧ w.cell? ⟨gr, v, none⟩ = some (.slice (some ⟨bv, 0, none⟩) (2 * g) kv) ∧
      w.cell? ⟨bu, c, none⟩ = some (.int .i64 x1) ∧ w.frozen? ⟨bu, c, none⟩ = false ∧
      (w.setCell ⟨bu, c, none⟩ (.int .i64 (v : Int))).cell? ⟨bv, flp c, none⟩ = some (.int .i64 x2) ∧ (w.setCell ⟨bu, c, none⟩ (.int .i64 (v : Int))).frozen? ⟨bv, flp c, none⟩ = false ∧
      ((w.setCell ⟨bu, c, none⟩ (.int .i64 (v : Int))).setCell ⟨bv, flp c, none⟩ (.int .i64 (u : Int))).cell? ⟨b, 3, none⟩ = some (.slice A f.k.length ck) ∧
      (Builtin.append_ #[98, 98] 98 #[.slice A f.k.length ck, .slice (some ⟨((w.setCell ⟨bu, c, none⟩ (.int .i64 (v : Int))).setCell ⟨bv, flp c, none⟩ (.int .i64 (u : Int))).heap.size, 0, none⟩) 1 1]).run Try.prog (((w.setCell ⟨bu, c, none⟩ (.int .i64 (v : Int))).setCell ⟨bv, flp c, none⟩ (.int .i64 (u : Int))).alloc (.cells #[.int .i64 (u : Int), .int .i64 (c : Int)] 109)) = .ok (.slice A' (f.k.length + 1) ck') w3 ∧
      w3.cell? ⟨b, 3, none⟩ = some (.slice A f.k.length ck) ∧ w3.frozen? ⟨b, 3, none⟩ = false ∧
      StGB K T wv bl cs base b lim (w3.setCell ⟨b, 3, none⟩ (.slice A' (f.k.length + 1) ck')) (joinF f u c v) ∧ Keeps base K w (w3.setCell ⟨b, 3, none⟩ (.slice A' (f.k.length + 1) ck')) := by
  obtain ⟨s, k⟩ := f
  simp only at *
  obtain ⟨hb, P, vr, vp, vq, vk, hB, hC, hK, hF⟩ := hS
  simp only at *
  have hlu := hI.len u hu
  have hlv := hI.len v hv
  have hf := flp_lt2 hc
  obtain ⟨gr, cr, rfl, r1, r2, r3⟩ := hC.at_ hu (c := c) (by omega)
  obtain ⟨gr', cr', e', p1, p2, p3⟩ := hC.at_ hv (c := flp c) (by omega)
  injection e' with e1 e2 e3
  injection e1 with e1
  injection e1 with e1
  subst e1
  have hC1 := hC.set hu (c := c) (by omega) (v : Int)
  have hbu := hC.row u hu
  obtain ⟨Cu, hCu, -⟩ := id hbu.2.1
  have hB1 := hB.other ⟨Cu, hCu⟩ (Ne.symm hT.a) c (.int .i64 (v : Int))
  have hK1 := hK.other hCu (by decide) c (.int .i64 (v : Int))
  have hlen1 : ({ s with t := set2 s.t u c (v : Int) } : St).t.length = s.t.length := length_set2 _ _ _ _
  obtain ⟨gr', cr', e', q1, q2, q3⟩ := hC1.at_ (r := v) (c := flp c) (by rw [hlen1]; exact hv) (by simp only [rowlen_set2]; omega)
  have hC2 := hC1.set (r := v) (c := flp c) (by rw [hlen1]; exact hv) (by simp only [rowlen_set2]; omega) (u : Int)
  have hbv := hC1.row v (by rw [hlen1]; exact hv)
  obtain ⟨Cv, hCv, -⟩ := id hbv.2.1
  have hB2 := hB1.other ⟨Cv, hCv⟩ (Ne.symm hT.a) (flp c) (.int .i64 (u : Int))
  have hK2 := hK1.other hCv (by decide) (flp c) (.int .i64 (u : Int))
  have hCJ : CoreM base ((w.setCell ⟨bl u, c, none⟩ (.int .i64 (v : Int))).setCell ⟨bl v, flp c, none⟩ (.int .i64 (u : Int))) (joinS s u c v) P _ vp vq bl cs := hC2
  have hBJ : BoxG T wv b lim ((w.setCell ⟨bl u, c, none⟩ (.int .i64 (v : Int))).setCell ⟨bl v, flp c, none⟩ (.int .i64 (u : Int))) (joinS s u c v) _ vp vq vk := hB2.of rfl rfl
  have hz : ((w.setCell ⟨bl u, c, none⟩ (.int .i64 (v : Int))).setCell ⟨bl v, flp c, none⟩ (.int .i64 (u : Int))).heap.size = w.heap.size := by rw [World.size_setCell, World.size_setCell]
  obtain ⟨A, ck, rfl⟩ := owns_form2 hK2
  obtain ⟨A', ck', w3, hrun, hown, hgr, hnew⟩ := push_cc _ base _ k hK2 (u, c) hk (by rw [hz]; exact hbw)
  have hB3 := hBJ.grown hgr (OwnC.ne_boxG hT hK2 hBJ)
  have hC3 := hCJ.keep (w' := w3) fun j C e hj hC' he => hgr.block j (Array.getElem?_eq_some_iff.1 hC').1 fun e' => by
    obtain ⟨-, C2, hC''⟩ := owns_block2 hK2 j e'.symm
    rw [hC'] at hC''
    cases hC''
    rcases he with h | h <;> cases h
  have hB4 := hB3.upd3 (s' := joinS s u c v) (.slice A' (k.length + 1) ck') rfl rfl
  have hC4 := hC3.other hB3.box hT.a hT.b 3 (.slice A' (k.length + 1) ck')
  have hK4 := hown.other hB3.box hT.c 3 (.slice A' (k.length + 1) ck')
  rw [hlu] at r1
  rw [hlv] at p1
  refine ⟨gr, cr, bl u, cs u, bl v, cs v, _, _, A, ck, A', ck', w3, hB.cells.2.2.1, r1, p1, r2, r3, q2, q3, hBJ.cells.2.2.2.2.2.1, hrun, hB3.cells.2.2.2.2.2.1, hB3.frozen 3, ⟨hb, P, _, vp, vq, _, hB4, hC4, hK4, ?_⟩, ?_⟩
  · have hsz : w.heap.size ≤ (w3.setCell ⟨b, 3, none⟩ (.slice A' (k.length + 1) ck')).heap.size := by
      have := hgr.size
      simp only [World.size_setCell] at this ⊢
      exact this
    refine ⟨fun k hk => Nat.lt_of_lt_of_le (hF.lt k hk) hsz, hF.box, hF.r, hF.p, hF.q, fun k hk hk' => ?_, fun i hi => hF.row i (by have e : (joinF (⟨s, k⟩ : FS) u c v).s.t.length = s.t.length := length_join _ _ _ _; omega)⟩
    rcases hnew k hk with h | h
    · exact hF.k k h hk'
    · exact absurd (hF.lt k hk') (by rw [hz] at h; omega)
  have h1 : Keeps base K w ((w.setCell ⟨bl u, c, none⟩ (.int .i64 (v : Int))).setCell ⟨bl v, flp c, none⟩ (.int .i64 (u : Int))) := ((Keeps.refl base K w).setCell hbu.1 (hF.row u hu) _).setCell hbv.1 (hF.row v hv) _
  exact (h1.grown hgr (by rw [hz]; exact hbw) (fun r hr => (owns_block2 hK2 r hr).1) (fun k hk => by rw [hz]; exact hF.lt k hk) (fun r hr => hF.k r hr)).setCell hb hF.box _
end Go.Proofs
namespace Go.Proofs
open Go.RowKit Go.Shelf Go.Proofs.Ct Go.Maps
/-- a parent -/
theorem StGB.par {K : Nat → Prop} {T : TypeId} {wv : Value} {bl cs : Nat → Nat} {base b lim : Nat} {w : World} {f : FS} (hS : StGB K T wv bl cs base b lim w f) {c : Nat} (hc : c < f.s.t.length) : ∃ P gp cp, w.cell? ⟨b, 1, none⟩ = some (.slice (some ⟨gp, 0, none⟩) f.s.t.length cp) ∧ Roots P f.s ∧ ∀ k, k < f.s.t.length → w.cell? ⟨gp, k, none⟩ = some (.int .i64 (P.getD k 0)) := by
  obtain ⟨-, P, vr, vp, vq, vk, hB, hC, -⟩ := hS
  obtain ⟨gp, cp, rfl, hg1, hg2, hcc, -⟩ := ownI_cell hC.par (by rw [hC.len]; omega)
  rw [hC.len] at hB hcc
  exact ⟨P, gp, cp, hB.cells.2.2.2.1, hC.root, fun k hk => hcc k hk⟩
set_option maxRecDepth 100000 in
set_option maxHeartbeats 1000000 in
theorem rep226_any (K : Nat → Prop) (T : TypeId) (wv : Value) (bl cs : Nat → Nat) (base b lim c : Nat) (w : World) (f : FS) (hS : StGB K T wv bl cs base b lim w f) (hc : c < f.s.t.length) (hn : f.s.t.length ≤ 1000000) :
    Calls Try.prog 226 #[.pointer (some ⟨b, 0, none⟩), .int .i64 (c : Int)] w fun e w' => e = .returned (.int .i64 (f.s.rp c : Int)) ∧ w = w' := by
  obtain ⟨P, gp, cp, c1, hR, hcc⟩ := hS.par hc
  have HR := Lib.hid hR
  have HCC := Lib.hid hcc
  have HRC := Lib.hid (hR.root c hc)
  have hn0 : (f.s.t.length : Int) ≤ 1000000 := by omega
  clear hS hR hcc
  go_enter Try.func226, Try.ntmps226
  go_wp2_with fail
  go_loopw [1] (fun i wr => ∃ r : Nat, i = .int .i64 r ∧ r < f.s.t.length ∧ Hid (Root P r (f.s.rp c)) ∧ w = wr) (fun i _ => (intOf i).toNat)
  case atStart => exact ⟨c, rfl, hc, HRC, rfl⟩
  case round =>
    obtain ⟨r, rfl, hr, HRR, rfl⟩ := hrel
    have hr0 : (0 : Int) ≤ (r : Int) := Int.natCast_nonneg _
    have hrI : (r : Int) < (f.s.t.length : Int) := by omega
    obtain ⟨y, hy, hyx, hyr, hyi⟩ := HRR.out.parent
    have hck := HCC.out r hr
    rw [hy] at hck
    have HYR := Lib.hid hyr
    have HYI := Lib.hid hyi
    clear hy hyr hyi
    by_cases hyx2 : y = r
    · subst hyx2
      have HE : Hid (f.s.rp c = y) := Lib.hid (HYI.out.1 rfl)
      have d2 : ((y : Int) != (y : Int)) = false := by simp
      go_wp2_with fail
      go_ret
      exact ⟨ret_int (by rw [HE.out]), rfl⟩
    · have d2 : ((y : Int) != (r : Int)) = true := by simp; omega
      have hyl : y < r := by omega
      go_wp2_with fail
      go_roundw
      case rel => exact ⟨y, rfl, by omega, HYR, trivial⟩
      case measure => simp [intOf]; omega
/-- what merging two classes writes -/
theorem merge_memG {K : Nat → Prop} {T : TypeId} {wv : Value} {bl cs : Nat → Nat} {g base b lim x y : Nat} {w : World} {f : FS} (hT : TyF T) (hI : Inv g f.s) (hbw : base ≤ w.heap.size) (hS : StGB K T wv bl cs base b lim w f) (hx : x < f.s.t.length) (hy : y < f.s.t.length) (hne : f.s.rp x ≠ f.s.rp y) (hq : f.s.q.length ≤ 1000000)
    (hi lo : Nat) (hhi : hi = max (f.s.rp x) (f.s.rp y)) (hlo : lo = min (f.s.rp x) (f.s.rp y)) :
    ∃ gp cp vq u, w.cell? ⟨b, 1, none⟩ = some (.slice (some ⟨gp, 0, none⟩) f.s.t.length cp) ∧ w.cell? ⟨gp, hi, none⟩ = some u ∧ w.frozen? ⟨gp, hi, none⟩ = false ∧ hi < f.s.t.length ∧
      (w.setCell ⟨gp, hi, none⟩ (.int .i64 (lo : Int))).cell? ⟨b, 6, none⟩ = some (.int .i64 f.s.live) ∧ (w.setCell ⟨gp, hi, none⟩ (.int .i64 (lo : Int))).frozen? ⟨b, 6, none⟩ = false ∧ ((w.setCell ⟨gp, hi, none⟩ (.int .i64 (lo : Int))).setCell ⟨b, 6, none⟩ (.int .i64 (f.s.live - 1))).cell? ⟨b, 2, none⟩ = some vq ∧
      ∃ A c w4, (Builtin.append_ #[24, 24] 24 #[vq, .slice (some ⟨w.heap.size, 0, none⟩) 1 1]).run Try.prog (((w.setCell ⟨gp, hi, none⟩ (.int .i64 (lo : Int))).setCell ⟨b, 6, none⟩ (.int .i64 (f.s.live - 1))).alloc (.cells #[.int .i64 (hi : Int)] 3)) = .ok (.slice A (f.s.q.length + 1) c) w4 ∧
        w4.cell? ⟨b, 2, none⟩ = some vq ∧ w4.frozen? ⟨b, 2, none⟩ = false ∧ StGB K T wv bl cs base b lim (w4.setCell ⟨b, 2, none⟩ (.slice A (f.s.q.length + 1) c)) ⟨mergeS f.s x y, f.k⟩ ∧ Keeps base K w (w4.setCell ⟨b, 2, none⟩ (.slice A (f.s.q.length + 1) c)) := by
  obtain ⟨hb, P, vr, vp, vq, vk, hB, hC, hK, hF⟩ := hS
  obtain ⟨s, k⟩ := f
  simp only at *
  have hR := hC.root.merge hI hx hy hne
  rw [← hhi, ← hlo] at hR
  have hmx : hi < s.t.length := by have := hI.rlt hx; have := hI.rlt hy; omega
  obtain ⟨gp, cp, rfl, hg1, -, hcc, hfz⟩ := ownI_cell hC.par (by rw [hC.len]; omega)
  rw [hC.len] at hcc
  obtain ⟨-, Cp, hCp⟩ := owns_block hC.par gp rfl
  have hC3 := hC.setP (g := gp) rfl (by rw [hC.len]; exact hmx) (lo : Int) (s' := { mergeS s x y with q := s.q }) (t_merge s x y) rfl (hR.of_rep rfl rfl)
  have hB3 := hB.other (g := gp) ⟨Cp, hCp⟩ (Ne.symm hT.a) hi (.int .i64 (lo : Int))
  have hK3 := hK.other hCp (by decide) hi (.int .i64 (lo : Int))
  obtain ⟨-, -, -, -, -, -, d6, -⟩ := hB3.cells
  have hml : (mergeS s x y).live = s.live - 1 := by unfold mergeS; rw [if_neg hne]
  have hB4 := hB3.upd6 (s' := mergeS s x y) (z := s.live - 1) hml (most_merge s x y)
  have hC4 := hC3.other hB3.box hT.a hT.b 6 (.int .i64 (s.live - 1))
  have hK4 := hK3.other hB3.box hT.c 6 (.int .i64 (s.live - 1))
  obtain ⟨-, -, -, -, d2, -, -, -⟩ := hB4.cells
  obtain ⟨A, c, w4, hrun, hC5, hgr⟩ := hC4.pushQ (by rw [World.size_setCell, World.size_setCell]; exact hbw) hi hq
  have hnew := hC4.pushQ_new (by rw [World.size_setCell, World.size_setCell]; exact hbw) hq hrun
  rw [World.size_setCell, World.size_setCell] at hrun hnew
  obtain ⟨-, hnq, -, -⟩ := hC4.ne_boxG hT hB4
  have hB5 := hB4.grown hgr hnq
  have hK5 := hK4.grown hgr fun r hr => by
    obtain ⟨-, C, hC'⟩ := owns_block hC4.que r hr
    exact ⟨C, 3, hC', by decide⟩
  obtain ⟨-, -, -, -, e2, -, -, -⟩ := hB5.cells
  have hB6 := hB5.upd2 (s' := mergeS s x y) (.slice A (s.q.length + 1) c) rfl rfl
  have hC6 := hC5.other hB5.box hT.a hT.b 2 (.slice A (s.q.length + 1) c)
  have hK6 := hK5.other hB5.box hT.c 2 (.slice A (s.q.length + 1) c)
  have hse : ({ ({ mergeS s x y with q := s.q } : St) with q := s.q ++ [hi] } : St) = mergeS s x y := by
    unfold mergeS
    rw [if_neg hne, ← hhi]
  have hpl : P.length = s.t.length := hC.len
  refine ⟨gp, cp, vq, _, by rw [← hpl]; exact hB.cells.2.2.2.1, hcc hi hmx, hfz hi, hmx, d6, hB3.frozen 6, d2, A, c, w4, hrun, e2, hB5.frozen 2, ⟨hb, P.set hi (lo : Int), _, _, _, _, hB6, ?_, hK6, ?_⟩, ?_⟩
  · have := hC6
    simp only at this
    rw [hse] at this
    exact this
  · have hsz : w.heap.size ≤ (w4.setCell ⟨b, 2, none⟩ (.slice A (s.q.length + 1) c)).heap.size := by
      have := hgr.size
      simp only [World.size_setCell] at this ⊢
      exact this
    refine ⟨fun k hk => Nat.lt_of_lt_of_le (hF.lt k hk) hsz, hF.box, hF.r, hF.p, fun k hk hk' => ?_, hF.k, fun i hi => hF.row i (by rwa [t_merge] at hi)⟩
    rcases hnew k hk with h | h
    · exact hF.q k h hk'
    · exact absurd (hF.lt k hk') (by omega)
  · have h1 : Keeps base K w (w.setCell ⟨gp, hi, none⟩ (.int .i64 (lo : Int))) := (Keeps.refl base K w).setCell hg1 (hF.p gp rfl) _
    have h2 := (h1.setCell (p := ⟨b, 6, none⟩) hb hF.box (.int .i64 (s.live - 1))).grown hgr (by rw [World.size_setCell, World.size_setCell]; exact hbw) (fun r hr => (owns_block hC4.que r hr).1) (fun k hk => by rw [World.size_setCell, World.size_setCell]; exact hF.lt k hk) (fun r hr => hF.q r hr)
    exact h2.setCell hb hF.box _
set_option maxRecDepth 100000 in
set_option maxHeartbeats 1000000 in
theorem merge225_any (K : Nat → Prop) (T : TypeId) (wv : Value) (bl cs : Nat → Nat) (g base b lim x y : Nat) (w : World) (f : FS) (hT : TyF T) (hI : Inv g f.s) (hS : StGB K T wv bl cs base b lim w f) (hbw : base ≤ w.heap.size) (hx : x < f.s.t.length) (hy : y < f.s.t.length) (hn : f.s.t.length ≤ 1000000) (hq : f.s.q.length ≤ 1000000) (hl0 : -1000000 ≤ f.s.live) (hl1 : f.s.live ≤ 1000000) :
    Calls Try.prog 225 #[.pointer (some ⟨b, 0, none⟩), .int .i64 (x : Int), .int .i64 (y : Int)] w fun e w' => e = .returned (.tuple #[]) ∧ StGB K T wv bl cs base b lim w' ⟨mergeS f.s x y, f.k⟩ ∧ Keeps base K w w' := by
  have HX := Lib.hid (rep226_any K T wv bl cs base b lim x w f hS hx hn)
  have HY := Lib.hid (rep226_any K T wv bl cs base b lim y w f hS hy hn)
  have HS := Lib.hid hS
  have HT := Lib.hid hT
  have HI := Lib.hid hI
  have hrx := hI.rlt hx
  have hry := hI.rlt hy
  have HBW := Lib.hid hbw
  clear hS hI hbw hT
  by_cases hne : f.s.rp x = f.s.rp y
  · have HM : Hid (mergeS f.s x y = f.s) := Lib.hid (by unfold mergeS; rw [if_pos hne])
    generalize mergeS f.s x y = s' at *
    generalize f.s.rp x = a at *
    generalize f.s.rp y = c at *
    subst hne
    go_enter Try.func225, Try.ntmps225
    go_wp2_with (first
      | (go_at_call 226; (with_reducible refine HX.out.mono ?_); rintro e w1 ⟨rfl, rfl⟩; clear HX)
      | (go_at_call 226; (with_reducible refine HY.out.mono ?_); rintro e w2 ⟨rfl, rfl⟩))
    try simp only [Exit.inBlock, Exit.then]
    refine bodyPost_ret (results_none rfl _ _ _) rfl ?_
    exact ⟨rfl, by rw [HM.out]; exact HS.out, Keeps.refl _ _ _⟩
  · obtain ⟨hi, hhi⟩ : ∃ hi, hi = max (f.s.rp x) (f.s.rp y) := ⟨_, rfl⟩
    obtain ⟨lo, hlo⟩ : ∃ lo, lo = min (f.s.rp x) (f.s.rp y) := ⟨_, rfl⟩
    obtain ⟨gp, cp, vq, u0, c1, c2, c3, c4, c5, c6, c7, A, c, w4, hrun, c8, c9, hst, hbe⟩ := merge_memG HT.out HI.out HBW.out HS.out hx hy hne hq hi lo hhi hlo
    have HAPP := Lib.hid hrun
    have HST := Lib.hid hst
    have HBE := Lib.hid hbe
    clear hrun hst hbe
    generalize mergeS f.s x y = s' at *
    generalize f.s.rp x = u at *
    generalize f.s.rp y = v at *
    have hu0 : (0 : Int) ≤ (u : Int) := Int.natCast_nonneg _
    have hv0 : (0 : Int) ≤ (v : Int) := Int.natCast_nonneg _
    have hdne : ((u : Int) == (v : Int)) = false := by rw [beq_eq_false_iff_ne]; omega
    have hq0 : (f.s.q.length : Int) ≤ 1000000 := by omega
    have hin : (hi : Int) < (f.s.t.length : Int) := by omega
    rcases Nat.lt_or_gt_of_ne hne with hlt | hlt
    · obtain rfl : hi = v := by omega
      obtain rfl : lo = u := by omega
      have hl1 : (lo : Int) < (hi : Int) := by omega
      have hl2 : ¬ (hi : Int) < (lo : Int) := by omega
      clear hhi hlo hlt hne
      go_enter Try.func225, Try.ntmps225
      go_wp2_with (first
        | (go_at_call 226; (with_reducible refine HX.out.mono ?_); rintro e w1 ⟨rfl, rfl⟩; clear HX)
        | (go_at_call 226; (with_reducible refine HY.out.mono ?_); rintro e w2 ⟨rfl, rfl⟩)
        | ((with_reducible refine wpList_sel 44 ?_); refine wpList_val rfl (r_app (.tmp 41) (.tmp 43) 24 rfl rfl rfl HAPP.out) ?_))
      go_end0
      exact ⟨rfl, HST.out, HBE.out⟩
    · obtain rfl : hi = u := by omega
      obtain rfl : lo = v := by omega
      have hl1 : (lo : Int) < (hi : Int) := by omega
      have hl2 : ¬ (hi : Int) < (lo : Int) := by omega
      clear hhi hlo hlt hne
      go_enter Try.func225, Try.ntmps225
      go_wp2_with (first
        | (go_at_call 226; (with_reducible refine HX.out.mono ?_); rintro e w1 ⟨rfl, rfl⟩; clear HX)
        | (go_at_call 226; (with_reducible refine HY.out.mono ?_); rintro e w2 ⟨rfl, rfl⟩)
        | ((with_reducible refine wpList_sel 44 ?_); refine wpList_val rfl (r_app (.tmp 41) (.tmp 43) 24 rfl rfl rfl HAPP.out) ?_))
      go_end0
      exact ⟨rfl, HST.out, HBE.out⟩
end Go.Proofs
namespace Go.Proofs
open Go.RowKit Go.Shelf Go.Proofs.Ct Go.Maps
/-- the rows: what is read of them, and what a write leaves -/
theorem StGB.view {K : Nat → Prop} {T : TypeId} {wv : Value} {bl cs : Nat → Nat} {g base b lim : Nat} {w : World} {f : FS} (hT : TyF T) (hl : ∀ r, r < f.s.t.length → (f.s.t.row r).length = 2 * g) (hS : StGB K T wv bl cs base b lim w f) (h0 : 0 < f.s.t.length) : ∃ gr cr : Nat, w.cell? ⟨b, 0, none⟩ = some (.slice (some ⟨gr, 0, none⟩) f.s.t.length cr) ∧ (∀ (r : Nat), r < f.s.t.length → w.cell? ⟨gr, r, none⟩ = some (.slice (some ⟨bl r, 0, none⟩) (2 * g) (cs r))) ∧ ∀ (r c : Nat), r < f.s.t.length → c < 2 * g → w.cell? ⟨bl r, c, none⟩ = some (.int .i64 (f.s.t.at r c)) ∧ w.frozen? ⟨bl r, c, none⟩ = false ∧
    ∀ z, StGB K T wv bl cs base b lim (w.setCell ⟨bl r, c, none⟩ (.int .i64 z)) ⟨{ f.s with t := set2 f.s.t r c z }, f.k⟩ ∧ Keeps base K w (w.setCell ⟨bl r, c, none⟩ (.int .i64 z)) := by
  obtain ⟨s, k⟩ := f
  simp only at *
  obtain ⟨hb, P, vr, vp, vq, vk, hB, hC, hK, hF⟩ := hS
  simp only at *
  obtain ⟨hlo, ho⟩ := hC.out
  rcases ho with ⟨-, h⟩ | ⟨gr, cap, cur, hvr, hbo, hCr, h3, hm, hs, ht⟩
  · omega
  · refine ⟨gr, cap, by rw [← hvr]; exact hB.cells.2.2.1, fun r hr => ?_, fun r c hr hc => ?_⟩
    · rw [cell_of_row _ _ _ _ _ _ hCr]
      have h2 : (cur.toList.take (s.t.length * 1))[r]? = ((List.range s.t.length).map fun i => Value.slice (some ⟨bl i, 0, none⟩) (s.t.row i).length (cs i))[r]? := by rw [ht]
      rw [List.getElem?_take, if_pos (by omega)] at h2
      simpa [hr, hl r hr] using h2
    · have hc' : c < (s.t.row r).length := by rw [hl r hr]; exact hc
      obtain ⟨gr', cr', e, r1, r2, r3⟩ := hC.at_ hr hc'
      obtain ⟨h1, ⟨C, hCb, -⟩, -⟩ := hC.row r hr
      exact ⟨r2, r3, fun z => ⟨⟨hb, P, _, vp, vq, vk, (hB.other ⟨C, hCb⟩ (Ne.symm hT.a) c _).of rfl rfl, hC.set hr hc' z, hK.other hCb (by decide) c _, ⟨fun k hk => by rw [World.size_setCell]; exact hF.lt k hk, hF.box, hF.r, hF.p, hF.q, hF.k, fun i hi => hF.row i (by rwa [length_set2] at hi)⟩⟩, (Keeps.refl base K w).setCell h1 (hF.row r hr) _⟩⟩
/-- a pair is laid down -/
theorem StGB.push {K : Nat → Prop} {T : TypeId} {wv : Value} {bl cs : Nat → Nat} {base b lim : Nat} {w : World} {f : FS} (hT : TyF T) (hS : StGB K T wv bl cs base b lim w f) (hbw : base ≤ w.heap.size) (u c : Nat) (hk : f.k.length ≤ 1000000000000) :
    ∃ A ck A' ck' w3, w.cell? ⟨b, 3, none⟩ = some (.slice A f.k.length ck) ∧
      (Builtin.append_ #[98, 98] 98 #[.slice A f.k.length ck, .slice (some ⟨w.heap.size, 0, none⟩) 1 1]).run Try.prog (w.alloc (.cells #[.int .i64 (u : Int), .int .i64 (c : Int)] 109)) = .ok (.slice A' (f.k.length + 1) ck') w3 ∧
      w3.cell? ⟨b, 3, none⟩ = some (.slice A f.k.length ck) ∧ w3.frozen? ⟨b, 3, none⟩ = false ∧
      StGB K T wv bl cs base b lim (w3.setCell ⟨b, 3, none⟩ (.slice A' (f.k.length + 1) ck')) ⟨f.s, f.k ++ [(u, c)]⟩ ∧ Keeps base K w (w3.setCell ⟨b, 3, none⟩ (.slice A' (f.k.length + 1) ck')) := by
  obtain ⟨s, k⟩ := f
  simp only at *
  obtain ⟨hb, P, vr, vp, vq, vk, hB, hC, hK, hF⟩ := hS
  simp only at *
  obtain ⟨A, ck, rfl⟩ := owns_form2 hK
  obtain ⟨A', ck', w3, hrun, hown, hgr, hnew⟩ := push_cc _ base _ k hK (u, c) hk hbw
  have hB3 := hB.grown hgr (OwnC.ne_boxG hT hK hB)
  have hC3 := hC.keep (w' := w3) fun j C e hj hC' he => hgr.block j (Array.getElem?_eq_some_iff.1 hC').1 fun e' => by
    obtain ⟨-, C2, hC''⟩ := owns_block2 hK j e'.symm
    rw [hC'] at hC''
    cases hC''
    rcases he with h | h <;> cases h
  have hB4 := hB3.upd3 (s' := s) (.slice A' (k.length + 1) ck') rfl rfl
  have hC4 := hC3.other hB3.box hT.a hT.b 3 (.slice A' (k.length + 1) ck')
  have hK4 := hown.other hB3.box hT.c 3 (.slice A' (k.length + 1) ck')
  refine ⟨A, ck, A', ck', w3, hB.cells.2.2.2.2.2.1, hrun, hB3.cells.2.2.2.2.2.1, hB3.frozen 3, ⟨hb, P, _, vp, vq, _, hB4, hC4, hK4, ?_⟩, ?_⟩
  · have hsz : w.heap.size ≤ (w3.setCell ⟨b, 3, none⟩ (.slice A' (k.length + 1) ck')).heap.size := by
      have := hgr.size
      simp only [World.size_setCell] at this ⊢
      exact this
    refine ⟨fun k hk => Nat.lt_of_lt_of_le (hF.lt k hk) hsz, hF.box, hF.r, hF.p, hF.q, fun k hk hk' => ?_, hF.row⟩
    rcases hnew k hk with h | h
    · exact hF.k k h hk'
    · exact absurd (hF.lt k hk') (by omega)
  · exact ((Keeps.refl base K w).grown hgr hbw (fun r hr => (owns_block2 hK r hr).1) hF.lt (fun r hr => hF.k r hr)).setCell hb hF.box _
set_option maxRecDepth 100000 in
set_option maxHeartbeats 1000000 in
theorem set200_any (K : Nat → Prop) (T : TypeId) (wv : Value) (bl cs : Nat → Nat) (g base b lim u c d : Nat) (w : World) (f : FS) (hT : TyF T) (hI : Inv g f.s) (hg : g ≤ 16) (hS : StGB K T wv bl cs base b lim w f) (hbw : base ≤ w.heap.size) (hu : u < f.s.t.length) (hv : d < f.s.t.length) (hc : c < 2 * g) (hn : f.s.t.length ≤ 1000000) (hk : f.k.length ≤ 1000000000000) :
    Calls Try.prog 200 #[.pointer (some ⟨b, 0, none⟩), .int .i64 (u : Int), .int .i64 (c : Int), .int .i64 (d : Int)] w fun e w' => e = .returned (.tuple #[]) ∧ StGB K T wv bl cs base b lim w' (joinF f u c d) ∧ Keeps base K w w' := by
  have hfe := flp_eq c (by omega)
  have hfl := flp_lt2 hc
  have hc0 : (0 : Int) ≤ (c : Int) := Int.natCast_nonneg _
  have hc1 : (c : Int) < ((2 * g : Nat) : Int) := by omega
  have hf0 : (0 : Int) ≤ ((flp c : Nat) : Int) := Int.natCast_nonneg _
  have hf1 : ((flp c : Nat) : Int) < ((2 * g : Nat) : Int) := by omega
  have hu0 : (0 : Int) ≤ (u : Int) := Int.natCast_nonneg _
  have hv0 : (0 : Int) ≤ (d : Int) := Int.natCast_nonneg _
  have hu1 : (u : Int) < (f.s.t.length : Int) := by omega
  have hv1 : (d : Int) < (f.s.t.length : Int) := by omega
  obtain ⟨gr, cr, f1, hw1, hw2⟩ := hS.view hT hI.len (by omega)
  have f2 := hw1 u hu
  obtain ⟨f3, f4, f5⟩ := hw2 u c hu hc
  have hst1 := (f5 (d : Int)).1
  have hbe1 := (f5 (d : Int)).2
  have hlen1 : (⟨{ f.s with t := set2 f.s.t u c (d : Int) }, f.k⟩ : FS).s.t.length = f.s.t.length := length_set2 _ _ _ _
  obtain ⟨gr1, cr1, p1, hw3, hw4⟩ := hst1.view (g := g) hT (fun r hr => by simp only [length_set2, rowlen_set2] at hr ⊢; exact hI.len r hr) (by rw [hlen1]; omega)
  have p2 := hw3 d (by rw [hlen1]; exact hv)
  obtain ⟨p3, p4, p5⟩ := hw4 d (flp c) (by rw [hlen1]; exact hv) hfl
  rw [hlen1] at p1
  have hst2 := (p5 (u : Int)).1
  have hbe2 := (p5 (u : Int)).2
  have hse : (⟨{ ({ f.s with t := set2 f.s.t u c (d : Int) } : St) with t := set2 (set2 f.s.t u c (d : Int)) d (flp c) (u : Int) }, f.k⟩ : FS) = ⟨joinS f.s u c d, f.k⟩ := rfl
  have hst2' : StGB K T wv bl cs base b lim ((w.setCell ⟨bl u, c, none⟩ (.int .i64 (d : Int))).setCell ⟨bl d, flp c, none⟩ (.int .i64 (u : Int))) ⟨joinS f.s u c d, f.k⟩ := hst2
  obtain ⟨A, ck, A', ck', w3, q1, hrun, q2, q3, hst3, hbe3⟩ := hst2'.push hT (by rw [World.size_setCell, World.size_setCell]; exact hbw) u c hk
  have HST : Hid (StGB K T wv bl cs base b lim (w3.setCell ⟨b, 3, none⟩ (.slice A' (f.k.length + 1) ck')) (joinF f u c d)) := Lib.hid hst3
  have HBE := Lib.hid ((hbe1.trans hbe2).trans hbe3)
  have HAPP := Lib.hid hrun
  have HP := Lib.hid (⟨p1, p2, p3, p4⟩ : _ ∧ _ ∧ _ ∧ _)
  have HQ := Lib.hid (⟨q1, q2, q3⟩ : _ ∧ _ ∧ _)
  clear hS hw1 hw2 f5 hst1 hbe1 hlen1 hw3 hw4 p1 p2 p3 p4 p5 hst2 hbe2 hse hst2' q1 q2 q3 hst3 hbe3 hrun hI hT
  generalize 2 * g = m at *
  generalize joinF f u c d = f' at *
  generalize bl u = bu at *
  generalize cs u = ku at *
  generalize bl d = bv at *
  generalize cs d = kv at *
  go_enter Try.func200, Try.ntmps200
  go_upto_region 1 with fail
  generalize w.setCell ⟨bu, c, none⟩ (.int .i64 (d : Int)) = w1 at *
  clear f1 f2 f3 f4
  obtain ⟨p1, p2, p3, p4⟩ := HP.out
  go_upto_region 2 with fail
  generalize w1.setCell ⟨bv, flp c, none⟩ (.int .i64 (u : Int)) = w2 at *
  clear p1 p2 p3 p4
  obtain ⟨q1, q2, q3⟩ := HQ.out
  go_wp2_with ((with_reducible refine wpList_sel 38 ?_); refine wpList_val rfl (r_app (.tmp 33) (.tmp 37) 98 rfl rfl rfl HAPP.out) ?_)
  go_end0
  exact ⟨rfl, HST.out, HBE.out⟩
end Go.Proofs
