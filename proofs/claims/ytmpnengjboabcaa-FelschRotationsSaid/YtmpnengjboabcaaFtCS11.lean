/- The cosets of Felsch's strategy: add, define (printed by genX5.py out of N12, N13); The cosets of Felsch's strategy: define. -/
import Derived.Test.YtmpnengjboabcaaFtCS10
import Derived.Test.YtmpnengjboabcaaFtCS6
namespace Go.Proofs
open Go.RowKit Go.Shelf Go.Proofs.Ct Go.Maps
theorem fld151_0 (b : Nat) (w : World) : (Instr.fieldAt 151 (.pointer (some ⟨b, 0, none⟩)) 0).run Try.prog w = .ok (.pointer (some ⟨b, 0, none⟩)) w := by kernel_rfl
theorem fld151_3 (b : Nat) (w : World) : (Instr.fieldAt 151 (.pointer (some ⟨b, 0, none⟩)) 3).run Try.prog w = .ok (.pointer (some ⟨b, 3, none⟩)) w := by kernel_rfl
theorem fld151_6 (b : Nat) (w : World) : (Instr.fieldAt 151 (.pointer (some ⟨b, 0, none⟩)) 6).run Try.prog w = .ok (.pointer (some ⟨b, 6, none⟩)) w := by kernel_rfl
theorem fld151_7 (b : Nat) (w : World) : (Instr.fieldAt 151 (.pointer (some ⟨b, 0, none⟩)) 7).run Try.prog w = .ok (.pointer (some ⟨b, 7, none⟩)) w := by kernel_rfl
structure BoxK (T : TypeId) (ex : List Value) (base b wd lim : Nat) (vk : Value) (ps : List (Nat × Nat)) (w : World) (s : St) (vr vp vq : Value) : Prop where
  ty : TyF T
  bx : BoxF T ex b wd lim w s vr vp vq vk
  ow : OwnC base w vk ps
section
variable {T : TypeId} {ex : List Value} {vk : Value} {ps : List (Nat × Nat)} {base b wd lim : Nat} {w w' : World} {s s' : St} {vr vp vq : Value}
theorem BoxK.box (h : BoxK T ex base b wd lim vk ps w s vr vp vq) : w.heap[b]? = some (.cells (#[.int .i64 (wd : Int), .int .i64 (lim : Int), vr, vp, vq, vk, .int .i64 s.live, .int .i64 s.most] ++ ex.toArray) T (0, 0)) := h.bx.box
theorem BoxK.cells (h : BoxK T ex base b wd lim vk ps w s vr vp vq) : w.cell? ⟨b, 0, none⟩ = some (.int .i64 (wd : Int)) ∧ w.cell? ⟨b, 1, none⟩ = some (.int .i64 (lim : Int)) ∧ w.cell? ⟨b, 2, none⟩ = some vr ∧ w.cell? ⟨b, 3, none⟩ = some vp ∧ w.cell? ⟨b, 4, none⟩ = some vq ∧ w.cell? ⟨b, 5, none⟩ = some vk ∧ w.cell? ⟨b, 6, none⟩ = some (.int .i64 s.live) ∧ w.cell? ⟨b, 7, none⟩ = some (.int .i64 s.most) := h.bx.cells
theorem BoxK.lt (h : BoxK T ex base b wd lim vk ps w s vr vp vq) : b < w.heap.size := h.bx.lt
theorem BoxK.frozen (h : BoxK T ex base b wd lim vk ps w s vr vp vq) (k : Nat) : w.frozen? ⟨b, k, none⟩ = false := h.bx.frozen k
theorem BoxK.below (h : BoxK T ex base b wd lim vk ps w s vr vp vq) (hb : Below w.heap.size w w') : BoxK T ex base b wd lim vk ps w' s vr vp vq := ⟨h.ty, h.bx.below hb, owns_below h.ow hb⟩
theorem BoxK.grown (h : BoxK T ex base b wd lim vk ps w s vr vp vq) {o : Option Nat} (hg : w.grownBy w' o) (hn : o ≠ some b) (ht : ∀ r, o = some r → ∃ C T, w.heap[r]? = some (.cells C T (0, 0)) ∧ T ≠ 109) : BoxK T ex base b wd lim vk ps w' s vr vp vq := ⟨h.ty, h.bx.grown hg hn, h.ow.grown hg ht⟩
theorem BoxK.upd2 (h : BoxK T ex base b wd lim vk ps w s vr vp vq) (v : Value) (hl : s'.live = s.live) (hm : s'.most = s.most) : BoxK T ex base b wd lim vk ps (w.setCell ⟨b, 2, none⟩ v) s' v vp vq := ⟨h.ty, h.bx.upd2 v hl hm, h.ow.other h.box h.ty.c 2 v⟩
theorem BoxK.upd3 (h : BoxK T ex base b wd lim vk ps w s vr vp vq) (v : Value) (hl : s'.live = s.live) (hm : s'.most = s.most) : BoxK T ex base b wd lim vk ps (w.setCell ⟨b, 3, none⟩ v) s' vr v vq := ⟨h.ty, h.bx.upd3 v hl hm, h.ow.other h.box h.ty.c 3 v⟩
theorem BoxK.upd6 (h : BoxK T ex base b wd lim vk ps w s vr vp vq) {z : Int} (hl : s'.live = z) (hm : s'.most = s.most) : BoxK T ex base b wd lim vk ps (w.setCell ⟨b, 6, none⟩ (.int .i64 z)) s' vr vp vq := ⟨h.ty, h.bx.upd6 hl hm, h.ow.other h.box h.ty.c 6 _⟩
theorem BoxK.upd7 (h : BoxK T ex base b wd lim vk ps w s vr vp vq) {z : Int} (hl : s'.live = s.live) (hm : s'.most = z) : BoxK T ex base b wd lim vk ps (w.setCell ⟨b, 7, none⟩ (.int .i64 z)) s' vr vp vq := ⟨h.ty, h.bx.upd7 hl hm, h.ow.other h.box h.ty.c 7 _⟩
theorem Still.boxK {N z i : Nat} (h : BoxK T ex base b wd lim vk ps w s vr vp vq) (hN : b < N) (k : Nat) (v : Value) : Still N z i w (w.setCell ⟨b, k, none⟩ v) :=
  ⟨fun j hj _ => Below.heap_setCell w ⟨b, k, none⟩ v j (fun e => by have e' : j = b := e; omega), fun _ j C e hC he => Below.heap_setCell w ⟨b, k, none⟩ v j fun e' => by
    have e'' : j = b := e'
    rw [e'', h.box] at hC
    cases hC
    rcases he with he | he
    · exact h.ty.a he
    · exact h.ty.b he⟩
end
def RowG (base N m : Nat) (t : Tb) (q : List Nat) (P : List Int) (b : Nat) (vr vp vq : Value) (bl cs : Nat → Nat) : Nat → Value → World → Prop
  | 5, v, w => ∃ g, v = .slice (some ⟨g, 0, none⟩) 1 1 ∧ N ≤ g ∧ w.heap[g]? = some (.cells #[.int .i64 (-1)] 3 (0, 0))
  | 10, v, w => ∃ g, v = .slice (some ⟨g, 0, none⟩) m m ∧ N ≤ g ∧ w.heap[g]? = some (.cells (rp (-1) m m).toArray 3 (0, 0))
  | 11, v, w => ∃ g h, v = .slice (some ⟨h, 0, none⟩) 1 1 ∧ N ≤ g ∧ N ≤ h ∧ w.heap[g]? = some (.cells (rp (-1) m m).toArray 3 (0, 0)) ∧ w.heap[h]? = some (.cells #[.slice (some ⟨g, 0, none⟩) m m] 24 (0, 0))
  | 12, v, w => ∃ A c g, v = .slice A (t.length + 1) c ∧ (N ≤ g ∧ ∀ r, v.ownBlock = some r → vr.ownBlock = some r ∨ N ≤ r) ∧ CoreN base w (t ++ [List.replicate m (-1)]) q P v vp vq (fun i => if i = t.length then g else bl i) (fun i => if i = t.length then m else cs i)
  | i, v, _ => v = ([.pointer (some ⟨b, 0, none⟩), .pointer (some ⟨b, 0, none⟩), .pointer (some ⟨b, 0, none⟩), .pointer (some ⟨b, 2, none⟩), vr, undef, .pointer (some ⟨b, 0, none⟩), .pointer (some ⟨b, 0, none⟩), .pointer (some ⟨b, 0, none⟩), .int .i64 (m : Int), undef, undef, undef, .pointer (some ⟨b, 0, none⟩), .pointer (some ⟨b, 2, none⟩), undef] : List Value).getD i undef
theorem RowG.keep {base N m b : Nat} {t : Tb} {q : List Nat} {P : List Int} {vr vp vq : Value} {bl cs : Nat → Nat} : ∀ (i j : Nat) (v : Value) (w w' : World), i < 16 → j < 16 → i ≠ j → Still N 12 i w w' → RowG base N m t q P b vr vp vq bl cs j v w → RowG base N m t q P b vr vp vq bl cs j v w' := by
  intro i j v w w' hi hj hne hS h
  have hk : ∀ (g : Nat) (o : Obj), N ≤ g → w.heap[g]? = some o → w'.heap[g]? = some o := fun g o hg ho => (hS.1 g hg (Array.getElem?_eq_some_iff.1 ho).1).trans ho
  have hcases : j = 5 ∨ j = 10 ∨ j = 11 ∨ j = 12 ∨ (j ≠ 5 ∧ j ≠ 10 ∧ j ≠ 11 ∧ j ≠ 12) := by omega
  rcases hcases with rfl | rfl | rfl | rfl | ⟨h1, h2, h3, h4⟩
  · obtain ⟨g, e, hg, hc⟩ := h
    exact ⟨g, e, hg, hk g _ hg hc⟩
  · obtain ⟨g, e, hg, hc⟩ := h
    exact ⟨g, e, hg, hk g _ hg hc⟩
  · obtain ⟨g, h0, e, hg, hh, hc, hc2⟩ := h
    exact ⟨g, h0, e, hg, hh, hk g _ hg hc, hk h0 _ hh hc2⟩
  · obtain ⟨A, c, g, e, hx, hC⟩ := h
    exact ⟨A, c, g, e, hx, hC.keep fun k C e0 _ hC' he => hS.2 hne k C e0 hC' he⟩
  · unfold RowG at h ⊢
    split at h <;> first | contradiction | exact h
def ParGF (base N : Nat) (t : Tb) (q : List Nat) (P : List Int) (b : Nat) (vr vp vq : Value) (bl cs : Nat → Nat) : Nat → Value → World → Prop
  | 10, v, w => ∃ h, v = .slice (some ⟨h, 0, none⟩) 1 1 ∧ N ≤ h ∧ w.heap[h]? = some (.cells #[.int .i64 (P.length : Int)] 3 (0, 0))
  | 11, v, w => ∃ A c, v = .slice A (P.length + 1) c ∧ (∀ r, v.ownBlock = some r → vp.ownBlock = some r ∨ N ≤ r) ∧ CoreN base w t q (P ++ [(P.length : Int)]) vr v vq bl cs
  | i, v, _ => v = ([.pointer (some ⟨b, 0, none⟩), .pointer (some ⟨b, 0, none⟩), .pointer (some ⟨b, 0, none⟩), .pointer (some ⟨b, 3, none⟩), vp, .pointer (some ⟨b, 0, none⟩), .pointer (some ⟨b, 0, none⟩), .pointer (some ⟨b, 3, none⟩), vp, .int .i64 (P.length : Int), undef, undef, .pointer (some ⟨b, 0, none⟩), .pointer (some ⟨b, 3, none⟩), undef] : List Value).getD i undef
theorem ParGF.keep {base N b : Nat} {t : Tb} {q : List Nat} {P : List Int} {vr vp vq : Value} {bl cs : Nat → Nat} : ∀ (i j : Nat) (v : Value) (w w' : World), i < 15 → j < 15 → i ≠ j → Still N 11 i w w' → ParGF base N t q P b vr vp vq bl cs j v w → ParGF base N t q P b vr vp vq bl cs j v w' := by
  intro i j v w w' hi hj hne hS h
  have hk : ∀ (g : Nat) (o : Obj), N ≤ g → w.heap[g]? = some o → w'.heap[g]? = some o := fun g o hg ho => (hS.1 g hg (Array.getElem?_eq_some_iff.1 ho).1).trans ho
  have hcases : j = 10 ∨ j = 11 ∨ (j ≠ 10 ∧ j ≠ 11) := by omega
  rcases hcases with rfl | rfl | ⟨h1, h2⟩
  · obtain ⟨g, e, hg, hc⟩ := h
    exact ⟨g, e, hg, hk g _ hg hc⟩
  · obtain ⟨A, c, e, hx, hC⟩ := h
    exact ⟨A, c, e, hx, hC.keep fun k C e0 _ hC' he => hS.2 hne k C e0 hC' he⟩
  · unfold ParGF at h ⊢
    split at h <;> first | contradiction | exact h
theorem cell0 {W : World} {h : Nat} {x : Value} {T : TypeId} (h1 : W.heap[h]? = some (.cells #[x] T (0, 0))) : W.cell? ⟨h, 0, none⟩ = some x := by rw [cell_of_row _ _ _ _ _ _ h1]; rfl
theorem new22 {base N : Nat} {W : World} {v : Value} {n : Nat} {xs : List Value} (ho : W.ownsRow base 24 1 v n xs) (hb : base ≤ W.heap.size) (hN : N ≤ W.heap.size) (hn : n ≤ 1000000) {h : Nat} {A0 : Option Addr} {m0 c0 : Nat} (hx : W.cell? ⟨h, 0, none⟩ = some (.slice A0 m0 c0)) {Q : Option Addr → Nat → World → Prop}
    (hq : ∃ A c w3, (Builtin.append_ #[22, 22] 22 #[v, .slice (some ⟨h, 0, none⟩) 1 1]).run Try.prog W = .ok (.slice A (n + 1) c) w3 ∧ Q A c w3 ∧ W.grownBy w3 v.ownBlock) :
    ∃ A c w3, (Builtin.append_ #[22, 22] 22 #[v, .slice (some ⟨h, 0, none⟩) 1 1]).run Try.prog W = .ok (.slice A (n + 1) c) w3 ∧ Q A c w3 ∧ W.grownBy w3 v.ownBlock ∧ ∀ r, (Value.slice A (n + 1) c).ownBlock = some r → v.ownBlock = some r ∨ N ≤ r := by
  obtain ⟨A, c, w3, h1, h2, h3⟩ := hq
  refine ⟨A, c, w3, h1, h2, h3, fun r hr => ?_⟩
  obtain ⟨A', c', w', hr', -, -, hw⟩ := run_push_at (t := 22) (ty := 22) Try.underlying22 info24p rfl (by omega) W base v n xs ho _ rfl (by omega) hb h hx
  rw [h1] at hr'
  injection hr' with e1 e2
  rw [e1] at hr
  rcases hw with hw | ⟨r', k1, k2⟩
  · exact .inl (by rw [← hw]; exact hr)
  · rw [hr] at k1
    cases k1
    exact .inr (Nat.le_trans hN k2)
theorem new24 {base N : Nat} {W : World} {v : Value} {n : Nat} {xs : List Value} (ho : W.ownsRow base 3 1 v n xs) (hb : base ≤ W.heap.size) (hN : N ≤ W.heap.size) (hn : n ≤ 1000000) {h : Nat} {z : Int} (hx : W.cell? ⟨h, 0, none⟩ = some (.int .i64 z)) {Q : Option Addr → Nat → World → Prop}
    (hq : ∃ A c w3, (Builtin.append_ #[24, 24] 24 #[v, .slice (some ⟨h, 0, none⟩) 1 1]).run Try.prog W = .ok (.slice A (n + 1) c) w3 ∧ Q A c w3 ∧ W.grownBy w3 v.ownBlock) :
    ∃ A c w3, (Builtin.append_ #[24, 24] 24 #[v, .slice (some ⟨h, 0, none⟩) 1 1]).run Try.prog W = .ok (.slice A (n + 1) c) w3 ∧ Q A c w3 ∧ W.grownBy w3 v.ownBlock ∧ ∀ r, (Value.slice A (n + 1) c).ownBlock = some r → v.ownBlock = some r ∨ N ≤ r := by
  obtain ⟨A, c, w3, h1, h2, h3⟩ := hq
  refine ⟨A, c, w3, h1, h2, h3, fun r hr => ?_⟩
  obtain ⟨A', c', w', hr', -, -, hw⟩ := run_push_at (t := 24) (ty := 24) Try.underlying24 info3p rfl (by omega) W base v n xs ho _ rfl (by omega) hb h hx
  rw [h1] at hr'
  injection hr' with e1 e2
  rw [e1] at hr
  rcases hw with hw | ⟨r', k1, k2⟩
  · exact .inl (by rw [← hw]; exact hr)
  · rw [hr] at k1
    cases k1
    exact .inr (Nat.le_trans hN k2)
structure RowK (K : Nat → Prop) (T : TypeId) (ex : List Value) (vk : Value) (ps : List (Nat × Nat)) (base b m lim : Nat) (w : World) (s : St) (P : List Int) (vr vp vq : Value) (bl cs : Nat → Nat) (p q : Bool) (W : World) : Prop where
  box : q = false → BoxK T ex base b m lim vk ps W s vr vp vq ∧ (p = false → CoreN base W s.t s.q P vr vp vq bl cs)
  bel : Keeps base K w W
  done : q = true → ∃ A c g, (w.heap.size ≤ g ∧ ∀ r, (Value.slice A (s.t.length + 1) c).ownBlock = some r → vr.ownBlock = some r ∨ w.heap.size ≤ r) ∧ BoxK T ex base b m lim vk ps W s (.slice A (s.t.length + 1) c) vp vq ∧ CoreN base W (s.t ++ [List.replicate m (-1)]) s.q P (.slice A (s.t.length + 1) c) vp vq (fun i => if i = s.t.length then g else bl i) (fun i => if i = s.t.length then m else cs i)
section
variable {K : Nat → Prop} {T : TypeId} {ex : List Value} {vk : Value} {ps : List (Nat × Nat)} {base b m lim : Nat} {w W W' : World} {s : St} {P : List Int} {vr vp vq : Value} {bl cs : Nat → Nat} {p q : Bool}
theorem RowK.below (h : RowK K T ex vk ps base b m lim w s P vr vp vq bl cs p q W) (hq : q = false) (hbw : base ≤ w.heap.size) (hlt : ∀ k, K k → k < w.heap.size) (hb : Below W.heap.size W W') : RowK K T ex vk ps base b m lim w s P vr vp vq bl cs p q W' :=
  ⟨fun _ => ⟨(h.box hq).1.below hb, fun hp => ((h.box hq).2 hp).below hb⟩, h.bel.trans (Keeps.all hb (Nat.le_trans hbw h.bel.size) fun k hk => Nat.lt_of_lt_of_le (hlt k hk) h.bel.size), fun e => by rw [hq] at e; cases e⟩
theorem RowK.app (h : RowK K T ex vk ps base b m lim w s P vr vp vq bl cs p q W) (hq : q = false) (hbw : base ≤ w.heap.size) (hlt : ∀ k, K k → k < w.heap.size) (hnk : ∀ r, vr.ownBlock = some r → ¬ K r) (hC : CoreN base W s.t s.q P vr vp vq bl cs) (hgr : W.grownBy W' vr.ownBlock) (hvr : ∀ r, vr.ownBlock = some r → base ≤ r ∧ r ≠ b) : RowK K T ex vk ps base b m lim w s P vr vp vq bl cs true q W' :=
  ⟨fun _ => ⟨(h.box hq).1.grown hgr (fun e => (hvr b e).2 rfl) (fun r hr => by obtain ⟨-, C, hC'⟩ := owns_block hC.out r hr; exact ⟨C, 24, hC', by decide⟩), fun e => (by cases e)⟩, h.bel.grown hgr (Nat.le_trans hbw h.bel.size) (fun r e => (hvr r e).1) (fun k hk => Nat.lt_of_lt_of_le (hlt k hk) h.bel.size) hnk, fun e => by rw [hq] at e; cases e⟩
theorem RowK.fin {A : Option Addr} {c g : Nat} (h : RowK K T ex vk ps base b m lim w s P vr vp vq bl cs p q W) (hq : q = false) (hb : base ≤ b) (hnb : ¬ K b) (hx : w.heap.size ≤ g ∧ ∀ r, (Value.slice A (s.t.length + 1) c).ownBlock = some r → vr.ownBlock = some r ∨ w.heap.size ≤ r) (hC : CoreN base W (s.t ++ [List.replicate m (-1)]) s.q P (.slice A (s.t.length + 1) c) vp vq (fun i => if i = s.t.length then g else bl i) (fun i => if i = s.t.length then m else cs i)) : RowK K T ex vk ps base b m lim w s P vr vp vq bl cs p true (W.setCell ⟨b, 2, none⟩ (.slice A (s.t.length + 1) c)) :=
  ⟨fun e => (by cases e), h.bel.setCell hb hnb _, fun _ => ⟨A, c, g, hx, (h.box hq).1.upd2 _ rfl rfl, hC.other (h.box hq).1.box (h.box hq).1.ty.a (h.box hq).1.ty.b 2 _⟩⟩
end
structure ParK (K : Nat → Prop) (T : TypeId) (ex : List Value) (vk : Value) (ps : List (Nat × Nat)) (base N b m lim : Nat) (w : World) (s : St) (t : Tb) (P : List Int) (vr vp vq : Value) (bl cs : Nat → Nat) (p q : Bool) (W : World) : Prop where
  box : q = false → BoxK T ex base b m lim vk ps W s vr vp vq ∧ (p = false → CoreN base W t s.q P vr vp vq bl cs)
  bel : Keeps base K w W
  siz : N ≤ W.heap.size
  done : q = true → ∃ A c, (∀ r, (Value.slice A (P.length + 1) c).ownBlock = some r → vp.ownBlock = some r ∨ N ≤ r) ∧ BoxK T ex base b m lim vk ps W s vr (.slice A (P.length + 1) c) vq ∧ CoreN base W t s.q (P ++ [(P.length : Int)]) vr (.slice A (P.length + 1) c) vq bl cs
section
variable {K : Nat → Prop} {T : TypeId} {ex : List Value} {vk : Value} {ps : List (Nat × Nat)} {base N b m lim : Nat} {w W W' : World} {s : St} {t : Tb} {P : List Int} {vr vp vq : Value} {bl cs : Nat → Nat} {p q : Bool}
theorem ParK.below (h : ParK K T ex vk ps base N b m lim w s t P vr vp vq bl cs p q W) (hq : q = false) (hbw : base ≤ w.heap.size) (hlt : ∀ k, K k → k < w.heap.size) (hb : Below W.heap.size W W') : ParK K T ex vk ps base N b m lim w s t P vr vp vq bl cs p q W' :=
  ⟨fun _ => ⟨(h.box hq).1.below hb, fun hp => ((h.box hq).2 hp).below hb⟩, h.bel.trans (Keeps.all hb (Nat.le_trans hbw h.bel.size) fun k hk => Nat.lt_of_lt_of_le (hlt k hk) h.bel.size), Nat.le_trans h.siz hb.size, fun e => by rw [hq] at e; cases e⟩
theorem ParK.app (h : ParK K T ex vk ps base N b m lim w s t P vr vp vq bl cs p q W) (hq : q = false) (hbw : base ≤ w.heap.size) (hlt : ∀ k, K k → k < w.heap.size) (hnk : ∀ r, vp.ownBlock = some r → ¬ K r) (hC : CoreN base W t s.q P vr vp vq bl cs) (hgr : W.grownBy W' vp.ownBlock) (hvr : ∀ r, vp.ownBlock = some r → base ≤ r ∧ r ≠ b) : ParK K T ex vk ps base N b m lim w s t P vr vp vq bl cs true q W' :=
  ⟨fun _ => ⟨(h.box hq).1.grown hgr (fun e => (hvr b e).2 rfl) (fun r hr => by obtain ⟨-, C, hC'⟩ := owns_block hC.par r hr; exact ⟨C, 3, hC', by decide⟩), fun e => (by cases e)⟩, h.bel.grown hgr (Nat.le_trans hbw h.bel.size) (fun r e => (hvr r e).1) (fun k hk => Nat.lt_of_lt_of_le (hlt k hk) h.bel.size) hnk, Nat.le_trans h.siz hgr.size, fun e => by rw [hq] at e; cases e⟩
theorem ParK.fin {A : Option Addr} {c : Nat} (h : ParK K T ex vk ps base N b m lim w s t P vr vp vq bl cs p q W) (hq : q = false) (hb : base ≤ b) (hnb : ¬ K b) (hx : ∀ r, (Value.slice A (P.length + 1) c).ownBlock = some r → vp.ownBlock = some r ∨ N ≤ r) (hC : CoreN base W t s.q (P ++ [(P.length : Int)]) vr (.slice A (P.length + 1) c) vq bl cs) : ParK K T ex vk ps base N b m lim w s t P vr vp vq bl cs p true (W.setCell ⟨b, 3, none⟩ (.slice A (P.length + 1) c)) :=
  ⟨fun e => (by cases e), h.bel.setCell hb hnb _, by rw [World.size_setCell]; exact h.siz, fun _ => ⟨A, c, hx, (h.box hq).1.upd3 _ rfl rfl, hC.other (h.box hq).1.box (h.box hq).1.ty.a (h.box hq).1.ty.b 3 _⟩⟩
end
set_option maxRecDepth 100000 in
set_option maxHeartbeats 4000000 in
theorem add195_any (K : Nat → Prop) (T : TypeId) (ex : List Value) (bl cs : Nat → Nat) (g m base b lim : Nat) (hm : m ≤ 1000) (w : World) (f : FS) (hT : TyF T) (hI : Inv g f.s) (hS : StFB K T ex bl cs base b m lim w f) (hbw : base ≤ w.heap.size) (hn : f.s.t.length ≤ 1000000) (hl0 : -1000000 ≤ f.s.live) (hl1 : f.s.live ≤ 1000000) :
    Calls Try.prog 195 #[.pointer (some ⟨b, 0, none⟩)] w fun e w' => e = .returned (.int .i64 (f.s.t.length : Int)) ∧ StF K T ex base b m lim w' ⟨addS m f.s, f.k⟩ ∧ Keeps base K w w' := by
  obtain ⟨s, ps⟩ := f
  simp only at *
  obtain ⟨hb, P, vr, vp, vq, vk, hB0, hC, hK0, hF⟩ := hS
  simp only at *
  have hB : BoxK T ex base b m lim vk ps w s vr vp vq := ⟨hT, hB0, hK0⟩
  obtain ⟨Ar, cr, rfl⟩ := owns_form hC.out
  have hd := (Below.refl w.heap.size w).drew
  have hB1 := hB.below hd
  have hC1 := hC.toN.below hd
  have hb1 : Keeps base K w w.drew := (Keeps.refl _ _ _).drew
  have HFR := Lib.hid hF
  obtain ⟨-, c1, c2, -⟩ := hB.cells
  have HBW := Lib.hid hbw
  have HBB := Lib.hid hb
  have HBN := Lib.hid hB.lt
  have HVR : Hid (∀ r, (Value.slice Ar s.t.length cr).ownBlock = some r → base ≤ r ∧ r ≠ b) := Lib.hid fun r hr => ⟨(owns_block hC.out r hr).1, fun e => (hC.ne_boxF hT hB0).2.2.1 (by rw [hr, e])⟩
  have HVN : Hid (∀ r, (Value.slice Ar s.t.length cr).ownBlock = some r → r < w.heap.size) := Lib.hid fun r hr => owns_lt hC.out hr
  have HADD : Hid (∀ (W : World) (g h : Nat), CoreN base W s.t s.q P (.slice Ar s.t.length cr) vp vq bl cs → Keeps base K w W → w.heap.size ≤ g → W.heap[g]? = some (.cells (rp (-1) m m).toArray 3 (0, 0)) → W.heap[h]? = some (.cells #[.slice (some ⟨g, 0, none⟩) m m] 24 (0, 0)) →
      ∃ A c w3, (Builtin.append_ #[22, 22] 22 #[.slice Ar s.t.length cr, .slice (some ⟨h, 0, none⟩) 1 1]).run Try.prog W = .ok (.slice A (s.t.length + 1) c) w3 ∧ CoreN base w3 (s.t ++ [List.replicate m (-1)]) s.q P (.slice A (s.t.length + 1) c) vp vq (fun i => if i = s.t.length then g else bl i) (fun i => if i = s.t.length then m else cs i) ∧ W.grownBy w3 (Value.slice Ar s.t.length cr).ownBlock ∧ ∀ r, (Value.slice A (s.t.length + 1) c).ownBlock = some r → (Value.slice Ar s.t.length cr).ownBlock = some r ∨ w.heap.size ≤ r) := Lib.hid fun W g h hN hbl hg h1 h2 => new22 hN.out (Nat.le_trans hbw hbl.size) hbl.size hn (cell0 h2) <| hN.pushRow (Nat.le_trans hbw hbl.size) (Nat.le_trans hbw hg) (xs_rp h1) (by simp) hm (fun i hi e => by have := (hC.row i hi).2.1.lt; omega) (fun e => by have := owns_lt hC.par e; omega) (fun e => by have := owns_lt hC.que e; omega) (by rw [cell_of_row _ _ _ _ _ _ h2]; rfl) hn
  have hn0 : (s.t.length : Int) ≤ 1000000 := by omega
  have HB1 := Lib.hid hB1
  have HC1 := Lib.hid hC1
  have HBE := Lib.hid hb1
  clear hB1 hC1 hb1 hd hB hB0 hK0 hF hbw hb
  go_enter Try.func195, Try.ntmps195
  go_wp2_with fail
  refine (wpIn_wide (n := 3)).1 ?_
  refine wpIn_region_all (by kernel_rfl) 16 rfl (fun i => if i < 15 then some (3 + i) else none) (lex_of (by kernel_rfl)) (fun ls W => RowK K T ex vk ps base b m lim w s P (.slice Ar s.t.length cr) vp vq bl cs (ls 12) (ls 15) W)
    (RowG base w.heap.size m s.t s.q P b (.slice Ar s.t.length cr) vp vq bl cs) (Still w.heap.size 12) (dm_inj (by kernel_rfl)) RowG.keep (dm_lt (n := 57) (by kernel_rfl)) ?_ ?_ ?_
  · exact ⟨fun _ => ⟨HB1.out, fun _ => HC1.out⟩, HBE.out, fun e => by cases e⟩
  · intro ls q o a w2 hq ho hS2 hls hcl hP hpre
    have hcases : q = 0 ∨ q = 1 ∨ q = 2 ∨ q = 3 ∨ q = 4 ∨ q = 5 ∨ q = 6 ∨ q = 7 ∨ q = 8 ∨ q = 9 ∨ q = 10 ∨ q = 11 ∨ q = 12 ∨ q = 13 ∨ q = 14 ∨ q = 15 := by
      have : q < 16 := hq
      omega
    rcases hcases with rfl | rfl | rfl | rfl | rfl | rfl | rfl | rfl | rfl | rfl | rfl | rfl | rfl | rfl | rfl | rfl
    · obtain rfl := Option.some.inj ho
      exact wpOpIn_of rfl rfl (wpW_val (r_move (.tmp 0) rfl (hP.out 0 (dm_out (by kernel_rfl)))) ⟨_, rfl, hS2, Still.same, (fun h => by simp at h), rfl⟩)
    · obtain rfl := Option.some.inj ho
      exact wpOpIn_of rfl rfl (wpW_val (r_move (.tmp 0) rfl (hP.out 0 (dm_out (by kernel_rfl)))) ⟨_, rfl, hS2, Still.same, (fun h => by simp at h), rfl⟩)
    · obtain rfl := Option.some.inj ho
      exact wpOpIn_of rfl rfl (wpW_val (r_nil (.tmp 4) _ rfl (hpre ⟨1, .data⟩ (by simp) rfl).2) ⟨_, rfl, hS2, Still.same, (fun h => by simp at h), rfl⟩)
    · obtain rfl := Option.some.inj ho
      exact wpOpIn_of rfl rfl (wpW_val (r_fld (.tmp 5) _ rfl (hpre ⟨2, .data⟩ (by simp) rfl).2 (fld151_2 b _)) ⟨_, rfl, hS2, Still.same, (fun h => by simp at h), rfl⟩)
    · obtain rfl := Option.some.inj ho
      have h15 := not_yet hcl 15 rfl ⟨4, .phase⟩ (by simp) rfl hls
      exact wpOpIn_of rfl rfl (wpW_val (r_load1 22 agg22 (.tmp 6) ⟨b, 2, none⟩ rfl (hpre ⟨3, .data⟩ (by simp) rfl).2 (hS2.1 h15).1.cells.2.2.1) ⟨_, rfl, hS2, Still.same, (fun h => by simp at h), rfl⟩)
    · obtain rfl := Option.some.inj ho
      have h15 := not_yet hcl 15 rfl ⟨5, .phase⟩ (by simp) rfl hls
      have hbl : Below w2.heap.size w2 (w2.alloc (.cells #[.int .i64 (-1)] 3)) := (Below.refl _ _).alloc (Nat.le_refl _) _
      exact wpOpIn_of rfl rfl (wpW_val (r_bs24 (.const (.int .i64 (-1))) (-1) rfl rfl) ⟨_, rfl, hS2.below h15 HBW.out HFR.out.lt hbl, Still.of_below hbl, (fun h => by simp at h), _, rfl, hS2.2.size, heap_alloc_new w2 _⟩)
    · obtain rfl := Option.some.inj ho
      exact wpOpIn_of rfl rfl (wpW_val (r_move (.tmp 0) rfl (hP.out 0 (dm_out (by kernel_rfl)))) ⟨_, rfl, hS2, Still.same, (fun h => by simp at h), rfl⟩)
    · obtain rfl := Option.some.inj ho
      exact wpOpIn_of rfl rfl (wpW_val (r_nil (.tmp 9) _ rfl (hpre ⟨6, .data⟩ (by simp) rfl).2) ⟨_, rfl, hS2, Still.same, (fun h => by simp at h), rfl⟩)
    · obtain rfl := Option.some.inj ho
      exact wpOpIn_of rfl rfl (wpW_val (r_fld (.tmp 10) _ rfl (hpre ⟨7, .data⟩ (by simp) rfl).2 (fld151_0 b _)) ⟨_, rfl, hS2, Still.same, (fun h => by simp at h), rfl⟩)
    · obtain rfl := Option.some.inj ho
      have h15 := not_yet hcl 15 rfl ⟨9, .phase⟩ (by simp) rfl hls
      exact wpOpIn_of rfl rfl (wpW_val (r_load1 3 agg3 (.tmp 11) ⟨b, 0, none⟩ rfl (hpre ⟨8, .data⟩ (by simp) rfl).2 (hS2.1 h15).1.cells.1) ⟨_, rfl, hS2, Still.same, (fun h => by simp at h), rfl⟩)
    · obtain rfl := Option.some.inj ho
      have h15 := not_yet hcl 15 rfl ⟨10, .phase⟩ (by simp) rfl hls
      obtain ⟨g5, e5, hg5, hc5⟩ := (hpre ⟨5, .data⟩ (by simp) rfl).2
      have e9 := (hpre ⟨9, .data⟩ (by simp) rfl).2
      have hcx : w2.cell? ⟨g5, 0, none⟩ = some (.int .i64 (-1)) := by rw [cell_of_row _ _ _ _ _ _ hc5]; rfl
      exact wpOpIn_of rfl rfl (wpW_call (R := fun v w' => (∃ g, v = .slice (some ⟨g, 0, none⟩) m m ∧ w2.heap.size ≤ g ∧ w'.heap[g]? = some (.cells (rp (-1) m m).toArray 3 (0, 0))) ∧ Below w2.heap.size w2 w') (r_call2 (.tmp 8) (.tmp 12) _ _ _ rfl e5 e9 call148) ((repeat148_any w2 g5 0 1 (-1) m hm hcx).mono fun e w' ⟨v, he, hx, hb⟩ => ⟨v, he, hx, hb⟩)
        (fun v w'' h => ⟨v, rfl, hS2.below h15 HBW.out HFR.out.lt h.2, Still.of_below h.2, (fun h => by simp at h), by obtain ⟨⟨g, e, hg, hc⟩, -⟩ := h; exact ⟨g, e, Nat.le_trans hS2.2.size hg, hc⟩⟩))
    · obtain rfl := Option.some.inj ho
      have h15 := not_yet hcl 15 rfl ⟨11, .phase⟩ (by simp) rfl hls
      obtain ⟨g6, e6, hg6, hc6⟩ := (hpre ⟨10, .data⟩ (by simp) rfl).2
      have hbl : Below w2.heap.size w2 (w2.alloc (.cells #[.slice (some ⟨g6, 0, none⟩) m m] 24)) := (Below.refl _ _).alloc (Nat.le_refl _) _
      exact wpOpIn_of rfl rfl (wpW_val (r_bs22 (.tmp 13) (some ⟨g6, 0, none⟩) m m rfl e6) ⟨_, rfl, hS2.below h15 HBW.out HFR.out.lt hbl, Still.of_below hbl, (fun h => by simp at h), g6, _, rfl, hg6, hS2.2.size, (hbl.block g6 (Array.getElem?_eq_some_iff.1 hc6).1).trans hc6, heap_alloc_new w2 _⟩)
    · obtain rfl := Option.some.inj ho
      have h15 : ls 15 = false := not_yet hcl 15 rfl ⟨12, .data⟩ (by simp) rfl hls
      have e4 := (hpre ⟨4, .data⟩ (by simp) rfl).2
      obtain ⟨g6, h7, e6, hg6, hh7, hc6, hc7⟩ := (hpre ⟨11, .data⟩ (by simp) rfl).2
      obtain ⟨A, c, w3, hrun, hC3, hgr, hnew⟩ := HADD.out w2 g6 h7 ((hS2.1 h15).2 hls) hS2.2 hg6 hc6 hc7
      exact wpOpIn_of rfl rfl (wpW_val (r_app (.tmp 7) (.tmp 14) 22 rfl e4 e6 hrun) ⟨_, rfl, hS2.app h15 HBW.out HFR.out.lt HFR.out.r ((hS2.1 h15).2 hls) hgr HVR.out, Still.grown hgr HVN.out, (fun h => by simp at h), A, c, g6, rfl, ⟨hg6, hnew⟩, hC3⟩)
    · obtain rfl := Option.some.inj ho
      exact wpOpIn_of rfl rfl (wpW_val (r_nil (.tmp 3) _ rfl (hpre ⟨0, .data⟩ (by simp) rfl).2) ⟨_, rfl, hS2, Still.same, (fun h => by simp at h), rfl⟩)
    · obtain rfl := Option.some.inj ho
      exact wpOpIn_of rfl rfl (wpW_val (r_fld (.tmp 16) _ rfl (hpre ⟨13, .data⟩ (by simp) rfl).2 (fld151_2 b _)) ⟨_, rfl, hS2, Still.same, (fun h => by simp at h), rfl⟩)
    · obtain rfl := Option.some.inj ho
      have h12 : ls 12 = true := (hpre ⟨12, .data⟩ (by simp) rfl).1
      obtain ⟨A, c, g6, e12, hx, hC3⟩ := (hpre ⟨12, .data⟩ (by simp) rfl).2
      have hBx := (hS2.1 hls).1
      rw [e12] at hC3 hx
      exact wpOpIn_of rfl rfl (wpW_skip (r_store1 22 (.tmp 17) (.tmp 15) ⟨b, 2, none⟩ _ _ rfl (hpre ⟨14, .data⟩ (by simp) rfl).2 e12 rfl hBx.cells.2.2.1 (hBx.frozen 2) (st22 _ _ A _ c hBx.cells.2.2.1 (hBx.frozen 2))) ⟨undef, rfl, hS2.fin hls HBB.out HFR.out.box hx hC3, Still.boxK hBx HBN.out _ _, fun _ => rfl, rfl⟩)
  · intro ls a w2 hall hS2 hP hsl
    have h15 : ls 15 = true := hall 15 (by decide)
    obtain ⟨A, c, g1, hx1, hB2, hC2⟩ := hS2.done h15
    have hb2 := hS2.bel
    obtain ⟨vs, hvs, hfr⟩ := hP.frame 57 rfl
    clear hsl hP hall h15 hvs hS2 HADD HVR HVN HB1 HC1 HBE
    subst hfr
    dsimp only
    simp only [List.range, List.range.loop, List.map_cons, List.map_nil, List.any_cons, List.any_nil, Nat.reduceAdd, Nat.reduceBEq, Nat.reduceLT, Option.some_beq_some, Bool.or_false, if_true, if_false, List.getD_cons_zero, List.getD_cons_succ]
    have HB2 := Lib.hid hB2
    have HC2 := Lib.hid hC2
    have HBE := Lib.hid hb2
    obtain ⟨Ap, cp, rfl⟩ := owns_form hC2.par
    have hpl : P.length = s.t.length := hC.len
    have HVR : Hid (∀ r, (Value.slice Ap P.length cp).ownBlock = some r → base ≤ r ∧ r ≠ b) := Lib.hid fun r hr => ⟨(owns_block hC2.par r hr).1, fun e => by
      obtain ⟨-, C, hCC⟩ := owns_block hC2.par r hr
      rw [e, hB2.box] at hCC
      cases hCC
      exact hT.a rfl⟩
    have HVN : Hid (∀ r, (Value.slice Ap P.length cp).ownBlock = some r → r < w2.heap.size) := Lib.hid fun r hr => owns_lt hC2.par hr
    have HBN : Hid (b < w2.heap.size) := Lib.hid hB2.lt
    have HT1 : Hid ((addS m s).t = s.t ++ [List.replicate m (-1)]) := Lib.hid rfl
    have HRO : Hid (Roots (P ++ [(P.length : Int)]) (addS m s)) := Lib.hid (by rw [hpl]; exact Roots.add hI hC.root m)
    have hsz2 := hb2.size
    have HFN : Hid (∀ (W : World) {A2 : Option Addr} {c2' : Nat}, w.heap.size ≤ W.heap.size → (∀ r, (Value.slice A2 (P.length + 1) c2').ownBlock = some r → (Value.slice Ap P.length cp).ownBlock = some r ∨ w2.heap.size ≤ r) → Free K W b (.slice A (s.t.length + 1) c) (.slice A2 (P.length + 1) c2') vq vk (fun i => if i = s.t.length then g1 else bl i) (addS m s).t.length) := Lib.hid fun W A2 c2' hw hx2 => by
      have hF := HFR.out
      have hla : (addS m s).t.length = s.t.length + 1 := length_add m
      refine ⟨fun k hk => Nat.lt_of_lt_of_le (hF.lt k hk) hw, hF.box, fun k hk hk' => ?_, fun k hk hk' => ?_, hF.q, hF.k, fun i hi hk' => ?_⟩
      · rcases hx1.2 k hk with h | h
        · exact hF.r k h hk'
        · exact absurd (hF.lt k hk') (by omega)
      · rcases hx2 k hk with h | h
        · exact hF.p k h hk'
        · exact absurd (hF.lt k hk') (by omega)
      · by_cases e : i = s.t.length
        · rw [if_pos e] at hk'
          exact absurd (hF.lt _ hk') (by have := hx1.1; omega)
        · rw [if_neg e] at hk'
          exact hF.row i (by omega) hk'
    clear hx1
    generalize s.t ++ [List.replicate m (-1)] = t1 at *
    generalize (fun i => if i = s.t.length then g1 else bl i) = bl1 at *
    generalize (fun i => if i = s.t.length then m else cs i) = cs1 at *
    have HPAR : Hid (∀ (W : World) (h : Nat), CoreN base W t1 s.q P (.slice A (s.t.length + 1) c) (.slice Ap P.length cp) vq bl1 cs1 → Keeps base K w W → w2.heap.size ≤ W.heap.size → W.heap[h]? = some (.cells #[.int .i64 (P.length : Int)] 3 (0, 0)) →
        ∃ A' c' w3, (Builtin.append_ #[24, 24] 24 #[.slice Ap P.length cp, .slice (some ⟨h, 0, none⟩) 1 1]).run Try.prog W = .ok (.slice A' (P.length + 1) c') w3 ∧ CoreN base w3 t1 s.q (P ++ [(P.length : Int)]) (.slice A (s.t.length + 1) c) (.slice A' (P.length + 1) c') vq bl1 cs1 ∧ W.grownBy w3 (Value.slice Ap P.length cp).ownBlock ∧ ∀ r, (Value.slice A' (P.length + 1) c').ownBlock = some r → (Value.slice Ap P.length cp).ownBlock = some r ∨ w2.heap.size ≤ r) := Lib.hid fun W h hN hbl hbl2 h1 => new24 hN.par (Nat.le_trans HBW.out hbl.size) hbl2 (by omega) (cell0 h1) <| hN.pushP (Nat.le_trans HBW.out hbl.size) (by rw [cell_of_row _ _ _ _ _ _ h1]; rfl) (by omega)
    clear hB2 hC2 hb2
    generalize w2 = w3 at *
    go_wp2_with fail
    refine (wpIn_wide (n := 3)).1 ?_
    refine wpIn_region_all (by kernel_rfl) 15 rfl (fun i => if i < 14 then some (18 + i) else none) (lex_of (by kernel_rfl)) (fun ls W => ParK K T ex vk ps base w3.heap.size b m lim w s t1 P (.slice A (s.t.length + 1) c) (.slice Ap P.length cp) vq bl1 cs1 (ls 11) (ls 14) W)
      (ParGF base w3.heap.size t1 s.q P b (.slice A (s.t.length + 1) c) (.slice Ap P.length cp) vq bl1 cs1) (Still w3.heap.size 11) (dm_inj (by kernel_rfl)) ParGF.keep (dm_lt (n := 57) (by kernel_rfl)) ?_ ?_ ?_
    · have hd := (Below.refl w3.heap.size w3).drew
      exact ⟨fun _ => ⟨HB2.out.below hd, fun _ => HC2.out.below hd⟩, HBE.out.drew, hd.size, fun e => (by cases e)⟩
    · intro ls q o a w2 hq ho hS2 hls hcl hP hpre
      have hcases : q = 0 ∨ q = 1 ∨ q = 2 ∨ q = 3 ∨ q = 4 ∨ q = 5 ∨ q = 6 ∨ q = 7 ∨ q = 8 ∨ q = 9 ∨ q = 10 ∨ q = 11 ∨ q = 12 ∨ q = 13 ∨ q = 14 := by
        have : q < 15 := hq
        omega
      rcases hcases with rfl | rfl | rfl | rfl | rfl | rfl | rfl | rfl | rfl | rfl | rfl | rfl | rfl | rfl | rfl
      · obtain rfl := Option.some.inj ho
        exact wpOpIn_of rfl rfl (wpW_val (r_move (.tmp 0) rfl (hP.out 0 (dm_out (by kernel_rfl)))) ⟨_, rfl, hS2, Still.same, (fun h => by simp at h), rfl⟩)
      · obtain rfl := Option.some.inj ho
        exact wpOpIn_of rfl rfl (wpW_val (r_move (.tmp 0) rfl (hP.out 0 (dm_out (by kernel_rfl)))) ⟨_, rfl, hS2, Still.same, (fun h => by simp at h), rfl⟩)
      · obtain rfl := Option.some.inj ho
        exact wpOpIn_of rfl rfl (wpW_val (r_nil (.tmp 19) _ rfl (hpre ⟨1, .data⟩ (by simp) rfl).2) ⟨_, rfl, hS2, Still.same, (fun h => by simp at h), rfl⟩)
      · obtain rfl := Option.some.inj ho
        exact wpOpIn_of rfl rfl (wpW_val (r_fld (.tmp 20) _ rfl (hpre ⟨2, .data⟩ (by simp) rfl).2 (fld151_3 b _)) ⟨_, rfl, hS2, Still.same, (fun h => by simp at h), rfl⟩)
      · obtain rfl := Option.some.inj ho
        have h14 := not_yet hcl 14 rfl ⟨4, .phase⟩ (by simp) rfl hls
        exact wpOpIn_of rfl rfl (wpW_val (r_load1 24 agg24 (.tmp 21) ⟨b, 3, none⟩ rfl (hpre ⟨3, .data⟩ (by simp) rfl).2 (hS2.box h14).1.cells.2.2.2.1) ⟨_, rfl, hS2, Still.same, (fun h => by simp at h), rfl⟩)
      · obtain rfl := Option.some.inj ho
        exact wpOpIn_of rfl rfl (wpW_val (r_move (.tmp 0) rfl (hP.out 0 (dm_out (by kernel_rfl)))) ⟨_, rfl, hS2, Still.same, (fun h => by simp at h), rfl⟩)
      · obtain rfl := Option.some.inj ho
        exact wpOpIn_of rfl rfl (wpW_val (r_nil (.tmp 23) _ rfl (hpre ⟨5, .data⟩ (by simp) rfl).2) ⟨_, rfl, hS2, Still.same, (fun h => by simp at h), rfl⟩)
      · obtain rfl := Option.some.inj ho
        exact wpOpIn_of rfl rfl (wpW_val (r_fld (.tmp 24) _ rfl (hpre ⟨6, .data⟩ (by simp) rfl).2 (fld151_3 b _)) ⟨_, rfl, hS2, Still.same, (fun h => by simp at h), rfl⟩)
      · obtain rfl := Option.some.inj ho
        have h14 := not_yet hcl 14 rfl ⟨8, .phase⟩ (by simp) rfl hls
        exact wpOpIn_of rfl rfl (wpW_val (r_load1 24 agg24 (.tmp 25) ⟨b, 3, none⟩ rfl (hpre ⟨7, .data⟩ (by simp) rfl).2 (hS2.box h14).1.cells.2.2.2.1) ⟨_, rfl, hS2, Still.same, (fun h => by simp at h), rfl⟩)
      · obtain rfl := Option.some.inj ho
        exact wpOpIn_of rfl rfl (wpW_val (r_len (.tmp 26) 24 Ap P.length cp Try.underlying24 rfl (hpre ⟨8, .data⟩ (by simp) rfl).2) ⟨_, rfl, hS2, Still.same, (fun h => by simp at h), rfl⟩)
      · obtain rfl := Option.some.inj ho
        have h14 := not_yet hcl 14 rfl ⟨10, .phase⟩ (by simp) rfl hls
        have e9 := (hpre ⟨9, .data⟩ (by simp) rfl).2
        have hbl : Below w2.heap.size w2 (w2.alloc (.cells #[.int .i64 (P.length : Int)] 3)) := (Below.refl _ _).alloc (Nat.le_refl _) _
        exact wpOpIn_of rfl rfl (wpW_val (r_bs24 (.tmp 27) (P.length : Int) rfl e9) ⟨_, rfl, hS2.below h14 HBW.out HFR.out.lt hbl, Still.of_below hbl, (fun h => by simp at h), _, rfl, hS2.siz, heap_alloc_new w2 _⟩)
      · obtain rfl := Option.some.inj ho
        have h14 : ls 14 = false := not_yet hcl 14 rfl ⟨11, .data⟩ (by simp) rfl hls
        have e4 := (hpre ⟨4, .data⟩ (by simp) rfl).2
        obtain ⟨h7, e7, hh7, hc7⟩ := (hpre ⟨10, .data⟩ (by simp) rfl).2
        obtain ⟨A', c', w3, hrun, hC3, hgr, hnew⟩ := HPAR.out w2 h7 ((hS2.box h14).2 hls) hS2.bel hS2.siz hc7
        exact wpOpIn_of rfl rfl (wpW_val (r_app (.tmp 22) (.tmp 28) 24 rfl e4 e7 hrun) ⟨_, rfl, hS2.app h14 HBW.out HFR.out.lt HFR.out.p ((hS2.box h14).2 hls) hgr HVR.out, Still.grown hgr HVN.out, (fun h => by simp at h), A', c', rfl, hnew, hC3⟩)
      · obtain rfl := Option.some.inj ho
        exact wpOpIn_of rfl rfl (wpW_val (r_nil (.tmp 18) _ rfl (hpre ⟨0, .data⟩ (by simp) rfl).2) ⟨_, rfl, hS2, Still.same, (fun h => by simp at h), rfl⟩)
      · obtain rfl := Option.some.inj ho
        exact wpOpIn_of rfl rfl (wpW_val (r_fld (.tmp 30) _ rfl (hpre ⟨12, .data⟩ (by simp) rfl).2 (fld151_3 b _)) ⟨_, rfl, hS2, Still.same, (fun h => by simp at h), rfl⟩)
      · obtain rfl := Option.some.inj ho
        obtain ⟨A', c', e12, hx, hC3⟩ := (hpre ⟨11, .data⟩ (by simp) rfl).2
        have hBx := (hS2.box hls).1
        rw [e12] at hC3 hx
        exact wpOpIn_of rfl rfl (wpW_skip (r_store1 24 (.tmp 31) (.tmp 29) ⟨b, 3, none⟩ _ _ rfl (hpre ⟨13, .data⟩ (by simp) rfl).2 e12 rfl hBx.cells.2.2.2.1 (hBx.frozen 3) (st24 _ _ A' _ c' hBx.cells.2.2.2.1 (hBx.frozen 3))) ⟨undef, rfl, hS2.fin hls HBB.out HFR.out.box hx hC3, Still.boxK hBx HBN.out _ _, fun _ => rfl, rfl⟩)
    · intro ls a w4 hall hS2 hP hsl
      have h14 : ls 14 = true := hall 14 (by decide)
      obtain ⟨A2, c2', hx2, hB4, hC4⟩ := hS2.done h14
      have hb4 := hS2.bel
      obtain ⟨vs2, hvs, hfr⟩ := hP.frame 57 rfl
      clear hsl hP hall h14 hvs hS2 HPAR HVR HVN HB2 HC2 HBE HBN
      subst hfr
      dsimp only
      simp only [List.range, List.range.loop, List.map_cons, List.map_nil, List.any_cons, List.any_nil, Nat.reduceAdd, Nat.reduceBEq, Nat.reduceLT, Option.some_beq_some, Bool.or_false, if_true, if_false, List.getD_cons_zero, List.getD_cons_succ]
      have hB5 := hB4.upd6 (s' := { s with live := s.live + 1 }) (z := s.live + 1) rfl rfl
      have hC5 := hC4.other hB4.box hT.a hT.b 6 (.int .i64 (s.live + 1))
      have hb5 := hb4.setCell HBB.out HFR.out.box (.int .i64 (s.live + 1)) (p := ⟨b, 6, none⟩)
      obtain ⟨-, -, -, -, -, -, c5, -⟩ := hB4.cells
      have f5 := hB4.frozen 6
      have hd := (Below.refl (w4.setCell ⟨b, 6, none⟩ (.int .i64 (s.live + 1))).heap.size (w4.setCell ⟨b, 6, none⟩ (.int .i64 (s.live + 1)))).drew
      have hB6 := hB5.below hd
      have hC6 := hC5.below hd
      have hb6 := hb5.drew
      have HC6 := Lib.hid hB6.cells.2.2.2.2.2.2.2
      have HC5 := Lib.hid hB6.cells.2.2.2.2.2.2.1
      have HF6 := Lib.hid (hB6.frozen 7)
      have hB7 := hB6.upd7 (s' := addS m s) (z := max s.most (s.live + 1)) rfl rfl
      have hC7 := hC6.other hB6.box hT.a hT.b 7 (.int .i64 (max s.most (s.live + 1)))
      have hb7 := hb6.setCell HBB.out HFR.out.box (.int .i64 (max s.most (s.live + 1))) (p := ⟨b, 7, none⟩)
      obtain ⟨-, -, c8, -⟩ := hB7.cells
      have HBE7 := Lib.hid hb7
      have HST : Hid (StF K T ex base b m lim ((w4.setCell ⟨b, 6, none⟩ (.int .i64 (s.live + 1))).drew.setCell ⟨b, 7, none⟩ (.int .i64 (max s.most (s.live + 1)))) ⟨addS m s, ps⟩) := Lib.hid ⟨bl1, cs1, HBB.out, _, _, _, vq, vk, hB7.bx, CoreN.toM (s := addS m s) (by rw [HT1.out]; exact hC7) HRO.out, hB7.ow, HFN.out _ HBE7.out.size hx2⟩
      have HBE := Lib.hid hb7
      have hp0 : (0 : Int) ≤ (P.length : Int) := Int.natCast_nonneg _
      have hp1 : (P.length : Int) ≤ 1000000 := by omega
      clear hB4 hC4 hb4 hB5 hC5 hb5 hd hB6 hC6 hb6 hB7 hC7 hb7 HT1 HRO hC c1 c2
      go_wp2_with fail
      refine (wpIn_wide (n := 3)).1 ?_
      generalize hw5 : w4.setCell ⟨b, 6, none⟩ (.int .i64 (s.live + 1)) = w5 at *
      refine wpIn_region_all (by kernel_rfl) 13 rfl (fun i => if i < 12 then some (39 + i) else none) (lex_of (by kernel_rfl)) (fun ls W => W = bif ls 12 then w5.drew.setCell ⟨b, 7, none⟩ (.int .i64 (max s.most (s.live + 1))) else w5.drew)
        (fun i v _ => v = ([.pointer (some ⟨b, 0, none⟩), .pointer (some ⟨b, 0, none⟩), .pointer (some ⟨b, 0, none⟩), .pointer (some ⟨b, 7, none⟩), .int .i64 s.most, .pointer (some ⟨b, 0, none⟩), .pointer (some ⟨b, 0, none⟩), .pointer (some ⟨b, 6, none⟩), .int .i64 (s.live + 1), .int .i64 (max s.most (s.live + 1)), .pointer (some ⟨b, 0, none⟩), .pointer (some ⟨b, 7, none⟩), undef] : List Value).getD i undef) (fun _ _ _ => True) (dm_inj (by kernel_rfl)) (fun _ _ _ _ _ _ _ _ _ h => h) (dm_lt (n := 57) (by kernel_rfl)) rfl ?_ ?_
      · intro ls q o a w2 hq ho hS2 hls hcl hP hpre
        have hcases : q = 0 ∨ q = 1 ∨ q = 2 ∨ q = 3 ∨ q = 4 ∨ q = 5 ∨ q = 6 ∨ q = 7 ∨ q = 8 ∨ q = 9 ∨ q = 10 ∨ q = 11 ∨ q = 12 := by
          have : q < 13 := hq
          omega
        rcases hcases with rfl | rfl | rfl | rfl | rfl | rfl | rfl | rfl | rfl | rfl | rfl | rfl | rfl
        · obtain rfl := Option.some.inj ho
          exact wpOpIn_of rfl rfl (wpW_val (r_move (.tmp 0) rfl (hP.out 0 (dm_out (by kernel_rfl)))) ⟨_, rfl, hS2, trivial, (fun h => by simp at h), rfl⟩)
        · obtain rfl := Option.some.inj ho
          exact wpOpIn_of rfl rfl (wpW_val (r_move (.tmp 0) rfl (hP.out 0 (dm_out (by kernel_rfl)))) ⟨_, rfl, hS2, trivial, (fun h => by simp at h), rfl⟩)
        · obtain rfl := Option.some.inj ho
          exact wpOpIn_of rfl rfl (wpW_val (r_nil (.tmp 40) _ rfl (hpre ⟨1, .data⟩ (by simp) rfl).2) ⟨_, rfl, hS2, trivial, (fun h => by simp at h), rfl⟩)
        · obtain rfl := Option.some.inj ho
          exact wpOpIn_of rfl rfl (wpW_val (r_fld (.tmp 41) _ rfl (hpre ⟨2, .data⟩ (by simp) rfl).2 (fld151_7 b _)) ⟨_, rfl, hS2, trivial, (fun h => by simp at h), rfl⟩)
        · obtain rfl := Option.some.inj ho
          have h12 := not_yet hcl 12 rfl ⟨4, .phase⟩ (by simp) rfl hls
          have hW := sel1 hS2 h12
          exact wpOpIn_of rfl rfl (wpW_val (r_load1 3 agg3 (.tmp 42) ⟨b, 7, none⟩ rfl (hpre ⟨3, .data⟩ (by simp) rfl).2 (by rw [hW]; exact HC6.out)) ⟨_, rfl, hS2, trivial, (fun h => by simp at h), rfl⟩)
        · obtain rfl := Option.some.inj ho
          exact wpOpIn_of rfl rfl (wpW_val (r_move (.tmp 0) rfl (hP.out 0 (dm_out (by kernel_rfl)))) ⟨_, rfl, hS2, trivial, (fun h => by simp at h), rfl⟩)
        · obtain rfl := Option.some.inj ho
          exact wpOpIn_of rfl rfl (wpW_val (r_nil (.tmp 44) _ rfl (hpre ⟨5, .data⟩ (by simp) rfl).2) ⟨_, rfl, hS2, trivial, (fun h => by simp at h), rfl⟩)
        · obtain rfl := Option.some.inj ho
          exact wpOpIn_of rfl rfl (wpW_val (r_fld (.tmp 45) _ rfl (hpre ⟨6, .data⟩ (by simp) rfl).2 (fld151_6 b _)) ⟨_, rfl, hS2, trivial, (fun h => by simp at h), rfl⟩)
        · obtain rfl := Option.some.inj ho
          have h12 := not_yet hcl 12 rfl ⟨8, .phase⟩ (by simp) rfl hls
          have hW := sel1 hS2 h12
          exact wpOpIn_of rfl rfl (wpW_val (r_load1 3 agg3 (.tmp 46) ⟨b, 6, none⟩ rfl (hpre ⟨7, .data⟩ (by simp) rfl).2 (by rw [hW]; exact HC5.out)) ⟨_, rfl, hS2, trivial, (fun h => by simp at h), rfl⟩)
        · obtain rfl := Option.some.inj ho
          exact wpOpIn_of rfl rfl (wpW_val (r_max2 (.tmp 43) (.tmp 47) s.most (s.live + 1) _ rfl (hpre ⟨4, .data⟩ (by simp) rfl).2 (hpre ⟨8, .data⟩ (by simp) rfl).2 rfl) ⟨_, rfl, hS2, trivial, (fun h => by simp at h), rfl⟩)
        · obtain rfl := Option.some.inj ho
          exact wpOpIn_of rfl rfl (wpW_val (r_nil (.tmp 39) _ rfl (hpre ⟨0, .data⟩ (by simp) rfl).2) ⟨_, rfl, hS2, trivial, (fun h => by simp at h), rfl⟩)
        · obtain rfl := Option.some.inj ho
          exact wpOpIn_of rfl rfl (wpW_val (r_fld (.tmp 49) _ rfl (hpre ⟨10, .data⟩ (by simp) rfl).2 (fld151_7 b _)) ⟨_, rfl, hS2, trivial, (fun h => by simp at h), rfl⟩)
        · obtain rfl := Option.some.inj ho
          have hW := sel1 hS2 hls
          subst hW
          exact wpOpIn_of rfl rfl (wpW_skip (r_store1 3 (.tmp 50) (.tmp 48) ⟨b, 7, none⟩ _ _ rfl (hpre ⟨11, .data⟩ (by simp) rfl).2 (hpre ⟨9, .data⟩ (by simp) rfl).2 rfl HC6.out HF6.out (st3 _ _ _ HC6.out HF6.out)) ⟨undef, rfl, rfl, trivial, fun _ => rfl, rfl⟩)
      · intro ls a w6 hall hS2 hP hsl
        have h12 : ls 12 = true := hall 12 (by decide)
        rw [h12] at hS2
        obtain ⟨vs3, hvs, hfr⟩ := hP.frame 57 rfl
        clear hsl hP hall h12 hvs HC6 HC5 HF6 hw5
        subst hfr
        change w6 = w5.drew.setCell ⟨b, 7, none⟩ (.int .i64 (max s.most (s.live + 1))) at hS2
        rw [← hS2] at c8 HST HBE
        clear hS2
        dsimp only
        simp only [List.range, List.range.loop, List.map_cons, List.map_nil, List.any_cons, List.any_nil, Nat.reduceAdd, Nat.reduceBEq, Nat.reduceLT, Option.some_beq_some, Bool.or_false, if_true, if_false, List.getD_cons_zero, List.getD_cons_succ]
        go_wp2_with fail
        go_ret
        exact ⟨ret_int (by omega), HST.out, HBE.out⟩
end Go.Proofs
namespace Go.Proofs
open Go.RowKit Go.Shelf Go.Proofs.Ct Go.Maps
def fullF : List PanicEntry := [{ v := .iface 196 (.agg #[]), recovered := false }]
theorem StF.open_ {K : Nat → Prop} {T : TypeId} {ex : List Value} {base b wd lim : Nat} {w : World} {f : FS} (h : StF K T ex base b wd lim w f) : ∃ bl cs, StFB K T ex bl cs base b wd lim w f := h
theorem StF.below {K : Nat → Prop} {T : TypeId} {ex : List Value} {base b wd lim : Nat} {w w' : World} {f : FS} (hS : StF K T ex base b wd lim w f) (h : Below w.heap.size w w') : StF K T ex base b wd lim w' f := let ⟨bl, cs, h1⟩ := hS; ⟨bl, cs, h1.below h⟩
theorem StFB.rows {K : Nat → Prop} {T : TypeId} {ex : List Value} {bl cs : Nat → Nat} {base b wd lim : Nat} {w : World} {f : FS} (hS : StFB K T ex bl cs base b wd lim w f) : ∃ A c, w.cell? ⟨b, 2, none⟩ = some (.slice A f.s.t.length c) := by
  obtain ⟨-, P, vr, vp, vq, vk, hB, hC, -⟩ := hS
  obtain ⟨A, c, rfl⟩ := owns_form hC.out
  exact ⟨A, c, hB.cells.2.2.1⟩
set_option maxRecDepth 100000 in
set_option maxHeartbeats 4000000 in
theorem define197_any (K : Nat → Prop) (T : TypeId) (ex : List Value) (bl cs : Nat → Nat) (g m base b lim r c : Nat) (hm : m = 2 * g) (hg : g ≤ 16) (w : World) (f : FS) (hT : TyF T) (hR : Ct.Rest g f.s) (hS : StFB K T ex bl cs base b m lim w f) (hbw : base ≤ w.heap.size) (hn : f.s.t.length + 1 ≤ 1000000) (hr : r < f.s.t.length) (hc : c < m) (hl : lim ≤ 1000000) (hlt : f.s.t.length < lim) (hk : f.k.length ≤ 1000000000000) :
    Calls Try.prog 197 #[.pointer (some ⟨b, 0, none⟩), .int .i64 (r : Int), .int .i64 (c : Int)] w fun e w' => e = .returned (.tuple #[]) ∧ StF K T ex base b m lim w' (defF m f r c) ∧ Keeps base K w w' := by
  have hlv : -1000000 ≤ f.s.live ∧ f.s.live ≤ 1000000 := by
    have h1 := hR.lv
    have h2 := dc_le f.s
    omega
  obtain ⟨A, cr, c2⟩ := hS.rows
  have c1 := hS.width.2
  have HBW := Lib.hid hbw
  have HA : Hid (∀ W, Below w.heap.size w W → Calls Try.prog 195 #[.pointer (some ⟨b, 0, none⟩)] W fun e w' => e = .returned (.int .i64 (f.s.t.length : Int)) ∧ StF K T ex base b m lim w' ⟨addS m f.s, f.k⟩ ∧ Keeps base K W w') := Lib.hid fun W h =>
    add195_any K T ex bl cs g m base b lim (by omega) W f hT hR.inv (hS.below h) (Nat.le_trans hbw h.size) (by omega) hlv.1 hlv.2
  have hI : Inv g (addS m f.s) := by rw [hm]; exact hR.add.inv
  have hlen : (addS m f.s).t.length = f.s.t.length + 1 := length_add m
  have HJ : Hid (∀ W, StF K T ex base b m lim W ⟨addS m f.s, f.k⟩ → base ≤ W.heap.size → Calls Try.prog 216 #[.pointer (some ⟨b, 0, none⟩), .int .i64 (r : Int), .int .i64 (c : Int), .int .i64 (f.s.t.length : Int)] W fun e w' => e = .returned (.tuple #[]) ∧ StF K T ex base b m lim w' (defF m f r c) ∧ Keeps base K W w') := Lib.hid fun W h hw => by
    obtain ⟨bl', cs', h'⟩ := h
    have hc' : c < 2 * g := by omega
    exact (set216_any K T ex bl' cs' g base b m lim r c f.s.t.length W ⟨addS m f.s, f.k⟩ hT hI hg h' hw (by simp only; omega) (by simp only; omega) hc' (by simp only; omega) hk).mono fun e w' ⟨h1, h2, h3⟩ => ⟨h1, ⟨bl', cs', h2⟩, h3⟩
  have hn0 : (f.s.t.length : Int) < (lim : Int) := by omega
  have hl0 : (lim : Int) ≤ 1000000 := by omega
  clear hS hR hbw hI hlen
  go_enter Try.func197, Try.ntmps197
  go_wp2_with fail
  go_region
  go_wp2_with (first
    | (go_at_call 195; (with_reducible refine (HA.out _ (Below.refl _ _).drew).mono ?_); rintro E w1 ⟨rfl, hs1, hb1⟩
       have HS1 := Lib.hid hs1
       have HB1 : Hid (Keeps base K w w1) := Lib.hid ((Keeps.refl base K w).drew.trans hb1)
       clear hs1 hb1)
    | (go_at_call 216; (with_reducible refine (HJ.out _ HS1.out (Nat.le_trans HBW.out HB1.out.size)).mono ?_); rintro E w2 ⟨rfl, hs2, hb2⟩
       have HS2 := Lib.hid hs2
       have HB2 := Lib.hid hb2
       clear hs2 hb2))
  try simp only [Exit.inBlock, Exit.then]
  go_end0
  exact ⟨rfl, HS2.out, HB1.out.trans HB2.out⟩
set_option maxRecDepth 100000 in
set_option maxHeartbeats 4000000 in
theorem define197_full (K : Nat → Prop) (T : TypeId) (ex : List Value) (bl cs : Nat → Nat) (m base b lim r c : Nat) (w : World) (f : FS) (hS : StFB K T ex bl cs base b m lim w f) (_hbw : base ≤ w.heap.size) (hn : f.s.t.length ≤ 1000000) (hl : lim ≤ f.s.t.length) :
    Calls Try.prog 197 #[.pointer (some ⟨b, 0, none⟩), .int .i64 (r : Int), .int .i64 (c : Int)] w fun e w' => e = .panicked fullF ∧ Keeps base K w w' := by
  obtain ⟨A, cr, c2⟩ := hS.rows
  have c1 := hS.width.2
  have hn0 : (lim : Int) ≤ (f.s.t.length : Int) := by omega
  have hl0 : (f.s.t.length : Int) ≤ 1000000 := by omega
  clear hS
  go_enter Try.func197, Try.ntmps197
  go_wp2_with fail
  go_region
  go_wp2_with fail
  exact ⟨rfl, rfl, (Keeps.refl base K w).drew⟩
end Go.Proofs
