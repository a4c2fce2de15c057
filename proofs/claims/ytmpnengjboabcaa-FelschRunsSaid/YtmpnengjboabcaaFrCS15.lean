/- The reference of Felsch's strategy: add (printed by genY4.py out of Q4); The reference of Felsch's strategy: define. -/
import Derived.Test.YtmpnengjboabcaaFrCS14
import Derived.Test.YtmpnengjboabcaaFrCS9
namespace Go.Proofs
open Go.RowKit Go.Shelf Go.Proofs.Ct Go.Maps
theorem fld169_0 (b : Nat) (w : World) : (Instr.fieldAt 169 (.pointer (some ⟨b, 0, none⟩)) 0).run Try.prog w = .ok (.pointer (some ⟨b, 0, none⟩)) w := by kernel_rfl
theorem fld169_1 (b : Nat) (w : World) : (Instr.fieldAt 169 (.pointer (some ⟨b, 0, none⟩)) 1).run Try.prog w = .ok (.pointer (some ⟨b, 1, none⟩)) w := by kernel_rfl
theorem fld169_6 (b : Nat) (w : World) : (Instr.fieldAt 169 (.pointer (some ⟨b, 0, none⟩)) 6).run Try.prog w = .ok (.pointer (some ⟨b, 6, none⟩)) w := by kernel_rfl
theorem fld169_7 (b : Nat) (w : World) : (Instr.fieldAt 169 (.pointer (some ⟨b, 0, none⟩)) 7).run Try.prog w = .ok (.pointer (some ⟨b, 7, none⟩)) w := by kernel_rfl
theorem cell0Y {W : World} {h : Nat} {x : Value} {T : TypeId} (h1 : W.heap[h]? = some (.cells #[x] T (0, 0))) : W.cell? ⟨h, 0, none⟩ = some x := by rw [cell_of_row _ _ _ _ _ _ h1]; rfl
theorem new23Y {base N : Nat} {W : World} {v : Value} {n : Nat} {xs : List Value} (ho : W.ownsRow base 24 1 v n xs) (hb : base ≤ W.heap.size) (hN : N ≤ W.heap.size) (hn : n ≤ 1000000) {h : Nat} {A0 : Option Addr} {m0 c0 : Nat} (hx : W.cell? ⟨h, 0, none⟩ = some (.slice A0 m0 c0)) {A : Option Addr} {c : Nat} {w3 : World} (h1 : (Builtin.append_ #[23, 23] 23 #[v, .slice (some ⟨h, 0, none⟩) 1 1]).run Try.prog W = .ok (.slice A (n + 1) c) w3) :
    ∀ r, (Value.slice A (n + 1) c).ownBlock = some r → v.ownBlock = some r ∨ N ≤ r := fun r hr => by
  obtain ⟨A', c', w', hr', -, -, hw⟩ := run_push_at (t := 23) (ty := 23) Try.underlying23 info24p rfl (by omega) W base v n xs ho _ rfl (by omega) hb h hx
  rw [h1] at hr'
  injection hr' with e1 e2
  rw [e1] at hr
  rcases hw with hw | ⟨r', k1, k2⟩
  · exact .inl (by rw [← hw]; exact hr)
  · rw [hr] at k1
    cases k1
    exact .inr (Nat.le_trans hN k2)
theorem new24Y {base N : Nat} {W : World} {v : Value} {n : Nat} {xs : List Value} (ho : W.ownsRow base 3 1 v n xs) (hb : base ≤ W.heap.size) (hN : N ≤ W.heap.size) (hn : n ≤ 1000000) {h : Nat} {z : Int} (hx : W.cell? ⟨h, 0, none⟩ = some (.int .i64 z)) {Q : Option Addr → Nat → World → Prop}
    (hq : ∃ A c w3, (Builtin.append_ #[24, 24] 24 #[v, .slice (some ⟨h, 0, none⟩) 1 1]).run Try.prog W = .ok (.slice A (n + 1) c) w3 ∧ Q A c w3 ∧ W.grownBy w3 v.ownBlock) :
    ∃ A c w3, (Builtin.append_ #[24, 24] 24 #[v, .slice (some ⟨h, 0, none⟩) 1 1]).run Try.prog W = .ok (.slice A (n + 1) c) w3 ∧ Q A c w3 ∧ W.grownBy w3 v.ownBlock ∧ ∀ r, (Value.slice A (n + 1) c).ownBlock = some r → v.ownBlock = some r ∨ N ≤ r := by
  obtain ⟨A, c, w3, h1, h2, h3⟩ := hq
  refine ⟨A, c, w3, h1, h2, h3, fun r hr => ?_⟩
  obtain ⟨A', c', w', hr', -, -, hw⟩ := run_push_at (t := 24) (ty := 24) Try.underlying24 info3p rfl (by omega) W base v n xs ho _ rfl (by omega) hb h hx
  rw [h1] at hr'
  injection hr' with e1 e2
  rw [e1] at hr
  rcases hw with hw | ⟨r', k1, k2⟩
  · exact .inl (by rw [← hw]; exact hr)
  · rw [hr] at k1
    cases k1
    exact .inr (Nat.le_trans hN k2)
/-- the box and the pairs -/
structure BoxGK (T : TypeId) (wv : Value) (base b lim : Nat) (vk : Value) (ps : List (Nat × Nat)) (w : World) (s : St) (vr vp vq : Value) : Prop where
  ty : TyF T
  bx : BoxG T wv b lim w s vr vp vq vk
  ow : OwnC base w vk ps
section
variable {T : TypeId} {wv : Value} {vk : Value} {ps : List (Nat × Nat)} {base b lim : Nat} {w w' : World} {s s' : St} {vr vp vq : Value}
theorem BoxGK.box (h : BoxGK T wv base b lim vk ps w s vr vp vq) : w.heap[b]? = some (.cells #[vr, vp, vq, vk, wv, .int .i64 (lim : Int), .int .i64 s.live, .int .i64 s.most] T (0, 0)) := h.bx.box
theorem BoxGK.cells (h : BoxGK T wv base b lim vk ps w s vr vp vq) : w.cell? ⟨b, 4, none⟩ = some wv ∧ w.cell? ⟨b, 5, none⟩ = some (.int .i64 (lim : Int)) ∧ w.cell? ⟨b, 0, none⟩ = some vr ∧ w.cell? ⟨b, 1, none⟩ = some vp ∧ w.cell? ⟨b, 2, none⟩ = some vq ∧ w.cell? ⟨b, 3, none⟩ = some vk ∧ w.cell? ⟨b, 6, none⟩ = some (.int .i64 s.live) ∧ w.cell? ⟨b, 7, none⟩ = some (.int .i64 s.most) := h.bx.cells
theorem BoxGK.lt (h : BoxGK T wv base b lim vk ps w s vr vp vq) : b < w.heap.size := h.bx.lt
theorem BoxGK.frozen (h : BoxGK T wv base b lim vk ps w s vr vp vq) (k : Nat) : w.frozen? ⟨b, k, none⟩ = false := h.bx.frozen k
theorem BoxGK.below (h : BoxGK T wv base b lim vk ps w s vr vp vq) (hb : Below w.heap.size w w') : BoxGK T wv base b lim vk ps w' s vr vp vq := ⟨h.ty, h.bx.below hb, owns_below h.ow hb⟩
theorem BoxGK.grown (h : BoxGK T wv base b lim vk ps w s vr vp vq) {o : Option Nat} (hg : w.grownBy w' o) (hn : o ≠ some b) (ht : ∀ r, o = some r → ∃ C T, w.heap[r]? = some (.cells C T (0, 0)) ∧ T ≠ 109) : BoxGK T wv base b lim vk ps w' s vr vp vq := ⟨h.ty, h.bx.grown hg hn, h.ow.grown hg ht⟩
theorem BoxGK.upd0 (h : BoxGK T wv base b lim vk ps w s vr vp vq) (v : Value) (hl : s'.live = s.live) (hm : s'.most = s.most) : BoxGK T wv base b lim vk ps (w.setCell ⟨b, 0, none⟩ v) s' v vp vq := ⟨h.ty, h.bx.upd0 v hl hm, h.ow.other h.box h.ty.c 0 v⟩
theorem BoxGK.upd1 (h : BoxGK T wv base b lim vk ps w s vr vp vq) (v : Value) (hl : s'.live = s.live) (hm : s'.most = s.most) : BoxGK T wv base b lim vk ps (w.setCell ⟨b, 1, none⟩ v) s' vr v vq := ⟨h.ty, h.bx.upd1 v hl hm, h.ow.other h.box h.ty.c 1 v⟩
theorem BoxGK.upd6 (h : BoxGK T wv base b lim vk ps w s vr vp vq) {z : Int} (hl : s'.live = z) (hm : s'.most = s.most) : BoxGK T wv base b lim vk ps (w.setCell ⟨b, 6, none⟩ (.int .i64 z)) s' vr vp vq := ⟨h.ty, h.bx.upd6 hl hm, h.ow.other h.box h.ty.c 6 _⟩
theorem BoxGK.upd7 (h : BoxGK T wv base b lim vk ps w s vr vp vq) {z : Int} (hl : s'.live = s.live) (hm : s'.most = z) : BoxGK T wv base b lim vk ps (w.setCell ⟨b, 7, none⟩ (.int .i64 z)) s' vr vp vq := ⟨h.ty, h.bx.upd7 hl hm, h.ow.other h.box h.ty.c 7 _⟩
theorem Still.boxGK {N z i : Nat} (h : BoxGK T wv base b lim vk ps w s vr vp vq) (hN : b < N) (k : Nat) (v : Value) : Still N z i w (w.setCell ⟨b, k, none⟩ v) :=
  ⟨fun j hj _ => Below.heap_setCell w ⟨b, k, none⟩ v j (fun e => by have e' : j = b := e; omega), fun _ j C e hC he => Below.heap_setCell w ⟨b, k, none⟩ v j fun e' => by
    have e'' : j = b := e'
    rw [e'', h.box] at hC
    cases hC
    rcases he with he | he
    · exact h.ty.a he
    · exact h.ty.b he⟩
theorem xs_boxGK {g k : Nat} {x : List Int} (h : XsAt w g x) (hb : BoxGK T wv base b lim vk ps w s vr vp vq) (v : Value) : XsAt (w.setCell ⟨b, k, none⟩ v) g x :=
  h.keep (Below.heap_setCell w ⟨b, k, none⟩ v g (fun e => by
    obtain ⟨C, hC, -⟩ := h
    have e' : g = b := e
    rw [e', hb.box] at hC
    cases hC
    exact hb.ty.a rfl))
end
/-- what each operation of the region that adds a parent has brought -/
def ParGY (base N : Nat) (t : Tb) (q : List Nat) (P : List Int) (b : Nat) (vr vp vq : Value) (bl cs : Nat → Nat) : Nat → Value → World → Prop
  | 10, v, w => ∃ h, v = .slice (some ⟨h, 0, none⟩) 1 1 ∧ N ≤ h ∧ w.heap[h]? = some (.cells #[.int .i64 (P.length : Int)] 3 (0, 0))
  | 11, v, w => ∃ A c, v = .slice A (P.length + 1) c ∧ (∀ r, v.ownBlock = some r → vp.ownBlock = some r ∨ N ≤ r) ∧ CoreN base w t q (P ++ [(P.length : Int)]) vr v vq bl cs
  | i, v, _ => v = ([.pointer (some ⟨b, 0, none⟩), .pointer (some ⟨b, 0, none⟩), .pointer (some ⟨b, 0, none⟩), .pointer (some ⟨b, 1, none⟩), vp, .pointer (some ⟨b, 0, none⟩), .pointer (some ⟨b, 0, none⟩), .pointer (some ⟨b, 0, none⟩), vr, .int .i64 (P.length : Int), undef, undef, .pointer (some ⟨b, 0, none⟩), .pointer (some ⟨b, 1, none⟩), undef] : List Value).getD i undef
theorem ParGY.keep {base N b : Nat} {t : Tb} {q : List Nat} {P : List Int} {vr vp vq : Value} {bl cs : Nat → Nat} : ∀ (i j : Nat) (v : Value) (w w' : World), i < 15 → j < 15 → i ≠ j → Still N 11 i w w' → ParGY base N t q P b vr vp vq bl cs j v w → ParGY base N t q P b vr vp vq bl cs j v w' := by
  intro i j v w w' hi hj hne hS h
  have hk : ∀ (g : Nat) (o : Obj), N ≤ g → w.heap[g]? = some o → w'.heap[g]? = some o := fun g o hg ho => (hS.1 g hg (Array.getElem?_eq_some_iff.1 ho).1).trans ho
  have hcases : j = 10 ∨ j = 11 ∨ (j ≠ 10 ∧ j ≠ 11) := by omega
  rcases hcases with rfl | rfl | ⟨h1, h2⟩
  · obtain ⟨g, e, hg, hc⟩ := h
    exact ⟨g, e, hg, hk g _ hg hc⟩
  · obtain ⟨A, c, e, hx, hC⟩ := h
    exact ⟨A, c, e, hx, hC.keep fun k C e0 _ hC' he => hS.2 hne k C e0 hC' he⟩
  · unfold ParGY at h ⊢
    split at h <;> first | contradiction | exact h
/-- a state while a parent joins, beside a row that waits -/
structure ParTY (K : Nat → Prop) (T : TypeId) (wv vk : Value) (ps : List (Nat × Nat)) (base N b lim gx : Nat) (x : List Int) (w : World) (s : St) (t : Tb) (P : List Int) (vr vp vq : Value) (bl cs : Nat → Nat) (p q : Bool) (W : World) : Prop where
  box : q = false → BoxGK T wv base b lim vk ps W s vr vp vq ∧ (p = false → CoreN base W t s.q P vr vp vq bl cs)
  bel : Keeps base K w W
  siz : N ≤ W.heap.size
  row : XsAt W gx x
  done : q = true → ∃ A c, (∀ r, (Value.slice A (P.length + 1) c).ownBlock = some r → vp.ownBlock = some r ∨ N ≤ r) ∧ BoxGK T wv base b lim vk ps W s vr (.slice A (P.length + 1) c) vq ∧ CoreN base W t s.q (P ++ [(P.length : Int)]) vr (.slice A (P.length + 1) c) vq bl cs
section
variable {K : Nat → Prop} {T : TypeId} {wv vk : Value} {ps : List (Nat × Nat)} {base N b lim gx : Nat} {x : List Int} {w W W' : World} {s : St} {t : Tb} {P : List Int} {vr vp vq : Value} {bl cs : Nat → Nat} {p q : Bool}
theorem ParTY.below (h : ParTY K T wv vk ps base N b lim gx x w s t P vr vp vq bl cs p q W) (hq : q = false) (hbw : base ≤ w.heap.size) (hlt : ∀ k, K k → k < w.heap.size) (hb : Below W.heap.size W W') : ParTY K T wv vk ps base N b lim gx x w s t P vr vp vq bl cs p q W' :=
  ⟨fun _ => ⟨(h.box hq).1.below hb, fun hp => ((h.box hq).2 hp).below hb⟩, h.bel.trans (Keeps.all hb (Nat.le_trans hbw h.bel.size) fun k hk => Nat.lt_of_lt_of_le (hlt k hk) h.bel.size), Nat.le_trans h.siz hb.size, h.row.below hb, fun e => by rw [hq] at e; cases e⟩
theorem ParTY.app (h : ParTY K T wv vk ps base N b lim gx x w s t P vr vp vq bl cs p q W) (hp : p = false) (hq : q = false) (hbw : base ≤ w.heap.size) (hlt : ∀ k, K k → k < w.heap.size) (hnk : ∀ r, vp.ownBlock = some r → ¬ K r) (hgr : W.grownBy W' vp.ownBlock) (hvr : ∀ r, vp.ownBlock = some r → base ≤ r ∧ r ≠ b ∧ r ≠ gx) : ParTY K T wv vk ps base N b lim gx x w s t P vr vp vq bl cs true q W' :=
  ⟨fun _ => ⟨(h.box hq).1.grown hgr (fun e => (hvr b e).2.1 rfl) (fun r hr => by obtain ⟨-, C, hC'⟩ := owns_block ((h.box hq).2 hp).par r hr; exact ⟨C, 3, hC', by decide⟩), fun e => (by cases e)⟩, h.bel.grown hgr (Nat.le_trans hbw h.bel.size) (fun r e => (hvr r e).1) (fun k hk => Nat.lt_of_lt_of_le (hlt k hk) h.bel.size) hnk, Nat.le_trans h.siz hgr.size, h.row.grown hgr (fun e => (hvr gx e).2.2 rfl), fun e => by rw [hq] at e; cases e⟩
theorem ParTY.fin {A : Option Addr} {c : Nat} (h : ParTY K T wv vk ps base N b lim gx x w s t P vr vp vq bl cs p q W) (hq : q = false) (hb : base ≤ b) (hnb : ¬ K b) (hx : ∀ r, (Value.slice A (P.length + 1) c).ownBlock = some r → vp.ownBlock = some r ∨ N ≤ r) (hC : CoreN base W t s.q (P ++ [(P.length : Int)]) vr (.slice A (P.length + 1) c) vq bl cs) : ParTY K T wv vk ps base N b lim gx x w s t P vr vp vq bl cs p true (W.setCell ⟨b, 1, none⟩ (.slice A (P.length + 1) c)) :=
  ⟨fun e => (by cases e), h.bel.setCell hb hnb _, by rw [World.size_setCell]; exact h.siz, xs_boxGK h.row (h.box hq).1 _, fun _ => ⟨A, c, hx, (h.box hq).1.upd1 _ rfl rfl, hC.other (h.box hq).1.box (h.box hq).1.ty.a (h.box hq).1.ty.b 1 _⟩⟩
end
set_option maxRecDepth 100000 in
set_option maxHeartbeats 4000000 in
theorem add150_any (K : Nat → Prop) (T : TypeId) (wv : Value) (bl cs : Nat → Nat) (g m base b lim : Nat) (hm : m ≤ 1000) (hm1 : 1 ≤ m) (w : World) (f : FS) (hT : TyF T) (hI : Inv g f.s) (hS : StGB K T wv bl cs base b lim w f) (hbw : base ≤ w.heap.size) (hn : f.s.t.length ≤ 1000000) (hl0 : -1000000 ≤ f.s.live) (hl1 : f.s.live ≤ 1000000) :
    Calls Try.prog 150 #[.pointer (some ⟨b, 0, none⟩), .int .i64 (m : Int)] w fun e w' => e = .returned (.tuple #[]) ∧ StG K T wv base b lim w' ⟨addS m f.s, f.k⟩ ∧ Keeps base K w w' := by
  obtain ⟨s, ps⟩ := f
  simp only at *
  obtain ⟨hb, P, vr, vp, vq, vk, hB0, hC, hK0, hF⟩ := hS
  simp only at *
  have hB : BoxGK T wv base b lim vk ps w s vr vp vq := ⟨hT, hB0, hK0⟩
  obtain ⟨Ar, cr, rfl⟩ := owns_form hC.out
  have HFR := Lib.hid hF
  have HB := Lib.hid hB
  have HC := Lib.hid hC
  have HBW := Lib.hid hbw
  have HBB := Lib.hid hb
  have hn0 : (s.t.length : Int) ≤ 1000000 := by omega
  have hm0 : (m : Int) ≤ 1000 := by omega
  clear hB hC hbw hb hB0 hK0 hF hT
  go_enter Try.func150, Try.ntmps150
  go_wp2_with fail
  go_loopg [4, 5] m (fun n v i wr => ∃ (k : Nat) (A : Option Addr) (c : Nat), i = .int .i64 (k : Int) ∧ n = m - k ∧ k ≤ m ∧ v = .slice A k c ∧ Hid (OwnI w.heap.size wr (.slice A k c) (List.replicate k (-1))) ∧ Hid (Below w.heap.size w wr))
  case atStart => exact ⟨0, none, 0, rfl, by omega, Nat.zero_le _, rfl, Lib.hid (World.ownsRow_nil _ _ _ _), Lib.hid (Below.refl _ _)⟩
  case round =>
    obtain ⟨k, Ak, ck, rfl, hgk, hk, rfl, HO, HBl⟩ := hrel
    have HGK := Lib.hid hgk
    clear hgk
    have hk0 : (0 : Int) ≤ (k : Int) := Int.natCast_nonneg _
    by_cases hlt : k < m
    · have hltI : (k : Int) < (m : Int) := by omega
      obtain ⟨A', c', w', hr, ho, hg, hw⟩ := push_int 24 24 Try.underlying24 wr w.heap.size _ _ HO.out (-1) (by simp; omega) HBl.out.size
      rw [List.length_replicate] at hr ho
      have hrep : List.replicate k (-1 : Int) ++ [-1] = List.replicate (k + 1) (-1) := by rw [List.replicate_succ']
      rw [hrep] at ho
      have HR := Lib.hid hr
      have HO2 := Lib.hid ho
      have HB2 := Lib.hid (HBl.out.grown hg HBl.out.size (fun r hr => (owns_block HO.out r hr).1))
      clear hr ho hg hw hrep
      go_wp2_with ((with_reducible refine wpList_sel 13 ?_); refine wpList_val rfl (r_app (.tmp 11) (.tmp 12) 24 rfl rfl rfl HR.out) ?_)
      go_roundg (m - (k + 1))
      case measure => have := HGK.out; omega
      case rel => exact ⟨k + 1, A', c', by go_num, rfl, by omega, rfl, HO2, HB2⟩
    · obtain rfl : k = m := by omega
      rename World => w1
      obtain ⟨g1, rfl⟩ : ∃ g1, Ak = some ⟨g1, 0, none⟩ := by
        obtain ⟨g1, c', e, -⟩ := ownI_cell HO.out (by simp; omega)
        injection e with e1
        exact ⟨g1, e1⟩
      have hxs := xs_own HO.out (by simp; omega)
      rw [List.length_replicate] at hxs
      have HXS := Lib.hid hxs
      have hB2 := HB.out.below HBl.out
      have hC2 := HC.out.toN.below HBl.out
      have hpl : P.length = s.t.length := HC.out.len
      rw [← hpl] at hB2 hC2
      obtain ⟨Ap, cp, rfl⟩ := owns_form hC2.par
      have HBX := Lib.hid hB2
      have HCX := Lib.hid hC2
      have HBE := Lib.hid (Keeps.all HBl.out HBW.out HFR.out.lt)
      have HVR : Hid (∀ r, (Value.slice Ap P.length cp).ownBlock = some r → base ≤ r ∧ r ≠ b ∧ r ≠ g1) := Lib.hid fun r hr => ⟨(owns_block hC2.par r hr).1, (fun e => by
        obtain ⟨-, C, hCC⟩ := owns_block hC2.par r hr
        rw [e, hB2.box] at hCC
        cases hCC
        exact hB2.ty.a rfl), fun e => by
        have h1 := owns_lt HC.out.par hr
        have h2 := hxs.2.1
        omega⟩
      have HVN : Hid (∀ r, (Value.slice Ap P.length cp).ownBlock = some r → r < w1.heap.size) := Lib.hid fun r hr => owns_lt hC2.par hr
      have HWS : Hid (w.heap.size ≤ w1.heap.size) := Lib.hid HBl.out.size
      have HBN : Hid (b < w1.heap.size) := Lib.hid hB2.lt
      have HRO : Hid (Roots (P ++ [(P.length : Int)]) (addS k s)) := Lib.hid (by rw [hpl]; exact Roots.add hI HC.out.root k)
      have HOLD : Hid (∀ i, i < s.t.length → bl i < w.heap.size) := Lib.hid fun i hi => (HC.out.row i hi).2.1.lt
      have HQB : Hid (∀ r, vq.ownBlock = some r → r < w.heap.size) := Lib.hid fun r hr => owns_lt HC.out.que hr
      have HPAR : Hid (∀ (W : World) (h : Nat), CoreN base W s.t s.q P (.slice Ar P.length cr) (.slice Ap P.length cp) vq bl cs → Keeps base K w W → w1.heap.size ≤ W.heap.size → W.heap[h]? = some (.cells #[.int .i64 (P.length : Int)] 3 (0, 0)) →
          ∃ A' c' w3, (Builtin.append_ #[24, 24] 24 #[.slice Ap P.length cp, .slice (some ⟨h, 0, none⟩) 1 1]).run Try.prog W = .ok (.slice A' (P.length + 1) c') w3 ∧ CoreN base w3 s.t s.q (P ++ [(P.length : Int)]) (.slice Ar P.length cr) (.slice A' (P.length + 1) c') vq bl cs ∧ W.grownBy w3 (Value.slice Ap P.length cp).ownBlock ∧ ∀ r, (Value.slice A' (P.length + 1) c').ownBlock = some r → (Value.slice Ap P.length cp).ownBlock = some r ∨ w1.heap.size ≤ r) := Lib.hid fun W h hN hbl hsz h1 =>
        new24Y hN.par (Nat.le_trans HBW.out hbl.size) hsz (by omega) (cell0Y h1) (hN.pushP (Nat.le_trans HBW.out hbl.size) (by rw [cell_of_row _ _ _ _ _ _ h1]; rfl) (by omega))
      clear hxs hB2 hC2
      go_wp2_with fail
      generalize w1 = w3 at *
      refine (wpIn_wide (n := 3)).1 ?_
      refine wpIn_region_all (by kernel_rfl) 15 rfl (fun i => if i < 14 then some (14 + i) else none) (lex_of (by kernel_rfl)) (fun ls W => ParTY K T wv vk ps base w3.heap.size b lim g1 (List.replicate k (-1)) w s s.t P (.slice Ar P.length cr) (.slice Ap P.length cp) vq bl cs (ls 11) (ls 14) W)
        (ParGY base w3.heap.size s.t s.q P b (.slice Ar P.length cr) (.slice Ap P.length cp) vq bl cs) (Still w3.heap.size 11) (dm_inj (by kernel_rfl)) ParGY.keep (dm_lt (n := 57) (by kernel_rfl)) ?_ ?_ ?_
      · have hd := (Below.refl w3.heap.size w3).drew
        exact ⟨fun _ => ⟨HBX.out.below hd, fun _ => HCX.out.below hd⟩, HBE.out.trans (Keeps.all hd (Nat.le_trans HBW.out HBE.out.size) fun k hk => Nat.lt_of_lt_of_le (HFR.out.lt k hk) HBE.out.size), hd.size, HXS.out.1.below hd, fun e => (by cases e)⟩
      · intro ls q o a w2 hq ho hS2 hls hcl hP hpre
        have hcases : q = 0 ∨ q = 1 ∨ q = 2 ∨ q = 3 ∨ q = 4 ∨ q = 5 ∨ q = 6 ∨ q = 7 ∨ q = 8 ∨ q = 9 ∨ q = 10 ∨ q = 11 ∨ q = 12 ∨ q = 13 ∨ q = 14 := by
          have : q < 15 := hq
          omega
        rcases hcases with rfl | rfl | rfl | rfl | rfl | rfl | rfl | rfl | rfl | rfl | rfl | rfl | rfl | rfl | rfl
        · obtain rfl := Option.some.inj ho
          exact wpOpIn_of rfl rfl (wpW_val (r_move (.tmp 0) rfl (hP.out 0 (dm_out (by kernel_rfl)))) ⟨_, rfl, hS2, Still.same, (fun h => by simp at h), rfl⟩)
        · obtain rfl := Option.some.inj ho
          exact wpOpIn_of rfl rfl (wpW_val (r_move (.tmp 0) rfl (hP.out 0 (dm_out (by kernel_rfl)))) ⟨_, rfl, hS2, Still.same, (fun h => by simp at h), rfl⟩)
        · obtain rfl := Option.some.inj ho
          exact wpOpIn_of rfl rfl (wpW_val (r_nil (.tmp 15) _ rfl (hpre ⟨1, .data⟩ (by simp) rfl).2) ⟨_, rfl, hS2, Still.same, (fun h => by simp at h), rfl⟩)
        · obtain rfl := Option.some.inj ho
          exact wpOpIn_of rfl rfl (wpW_val (r_fld (.tmp 16) _ rfl (hpre ⟨2, .data⟩ (by simp) rfl).2 (fld169_1 b _)) ⟨_, rfl, hS2, Still.same, (fun h => by simp at h), rfl⟩)
        · obtain rfl := Option.some.inj ho
          have h14 := not_yet hcl 14 rfl ⟨4, .phase⟩ (by simp) rfl hls
          exact wpOpIn_of rfl rfl (wpW_val (r_load1 24 agg24 (.tmp 17) ⟨b, 1, none⟩ rfl (hpre ⟨3, .data⟩ (by simp) rfl).2 (hS2.box h14).1.cells.2.2.2.1) ⟨_, rfl, hS2, Still.same, (fun h => by simp at h), rfl⟩)
        · obtain rfl := Option.some.inj ho
          exact wpOpIn_of rfl rfl (wpW_val (r_move (.tmp 0) rfl (hP.out 0 (dm_out (by kernel_rfl)))) ⟨_, rfl, hS2, Still.same, (fun h => by simp at h), rfl⟩)
        · obtain rfl := Option.some.inj ho
          exact wpOpIn_of rfl rfl (wpW_val (r_nil (.tmp 19) _ rfl (hpre ⟨5, .data⟩ (by simp) rfl).2) ⟨_, rfl, hS2, Still.same, (fun h => by simp at h), rfl⟩)
        · obtain rfl := Option.some.inj ho
          exact wpOpIn_of rfl rfl (wpW_val (r_fld (.tmp 20) _ rfl (hpre ⟨6, .data⟩ (by simp) rfl).2 (fld169_0 b _)) ⟨_, rfl, hS2, Still.same, (fun h => by simp at h), rfl⟩)
        · obtain rfl := Option.some.inj ho
          have h14 := not_yet hcl 14 rfl ⟨8, .phase⟩ (by simp) rfl hls
          exact wpOpIn_of rfl rfl (wpW_val (r_load1 23 agg23 (.tmp 21) ⟨b, 0, none⟩ rfl (hpre ⟨7, .data⟩ (by simp) rfl).2 (hS2.box h14).1.cells.2.2.1) ⟨_, rfl, hS2, Still.same, (fun h => by simp at h), rfl⟩)
        · obtain rfl := Option.some.inj ho
          exact wpOpIn_of rfl rfl (wpW_val (r_len (.tmp 22) 23 Ar P.length cr Try.underlying23 rfl (hpre ⟨8, .data⟩ (by simp) rfl).2) ⟨_, rfl, hS2, Still.same, (fun h => by simp at h), rfl⟩)
        · obtain rfl := Option.some.inj ho
          have h14 := not_yet hcl 14 rfl ⟨10, .phase⟩ (by simp) rfl hls
          have e9 := (hpre ⟨9, .data⟩ (by simp) rfl).2
          have hbl : Below w2.heap.size w2 (w2.alloc (.cells #[.int .i64 (P.length : Int)] 3)) := (Below.refl _ _).alloc (Nat.le_refl _) _
          exact wpOpIn_of rfl rfl (wpW_val (r_bs24 (.tmp 23) (P.length : Int) rfl e9) ⟨_, rfl, hS2.below h14 HBW.out HFR.out.lt hbl, Still.of_below hbl, (fun h => by simp at h), _, rfl, hS2.siz, heap_alloc_new w2 _⟩)
        · obtain rfl := Option.some.inj ho
          have h14 : ls 14 = false := not_yet hcl 14 rfl ⟨11, .data⟩ (by simp) rfl hls
          have e4 := (hpre ⟨4, .data⟩ (by simp) rfl).2
          obtain ⟨h7, e7, hh7, hc7⟩ := (hpre ⟨10, .data⟩ (by simp) rfl).2
          obtain ⟨A', c', w3, hrun, hC3, hgr, hnew⟩ := HPAR.out w2 h7 ((hS2.box h14).2 hls) hS2.bel hS2.siz hc7
          exact wpOpIn_of rfl rfl (wpW_val (r_app (.tmp 18) (.tmp 24) 24 rfl e4 e7 hrun) ⟨_, rfl, hS2.app hls h14 HBW.out HFR.out.lt HFR.out.p hgr HVR.out, Still.grown hgr HVN.out, (fun h => by simp at h), A', c', rfl, hnew, hC3⟩)
        · obtain rfl := Option.some.inj ho
          exact wpOpIn_of rfl rfl (wpW_val (r_nil (.tmp 14) _ rfl (hpre ⟨0, .data⟩ (by simp) rfl).2) ⟨_, rfl, hS2, Still.same, (fun h => by simp at h), rfl⟩)
        · obtain rfl := Option.some.inj ho
          exact wpOpIn_of rfl rfl (wpW_val (r_fld (.tmp 26) _ rfl (hpre ⟨12, .data⟩ (by simp) rfl).2 (fld169_1 b _)) ⟨_, rfl, hS2, Still.same, (fun h => by simp at h), rfl⟩)
        · obtain rfl := Option.some.inj ho
          obtain ⟨A', c', e12, hx12, hC3⟩ := (hpre ⟨11, .data⟩ (by simp) rfl).2
          have hBx := (hS2.box hls).1
          rw [e12] at hC3 hx12
          exact wpOpIn_of rfl rfl (wpW_skip (r_store1 24 (.tmp 27) (.tmp 25) ⟨b, 1, none⟩ _ _ rfl (hpre ⟨13, .data⟩ (by simp) rfl).2 e12 rfl hBx.cells.2.2.2.1 (hBx.frozen 1) (st24 _ _ A' _ c' hBx.cells.2.2.2.1 (hBx.frozen 1))) ⟨undef, rfl, hS2.fin hls HBB.out HFR.out.box hx12 hC3, Still.boxGK hBx HBN.out _ _, fun _ => rfl, rfl⟩)
      · intro ls a w4 hall hS2 hP hsl
        have h14 : ls 14 = true := hall 14 (by decide)
        obtain ⟨A2, c2', hx4b, hB4, hC4⟩ := hS2.done h14
        have hb4 := hS2.bel
        have hS2R := hS2.row
        obtain ⟨vs2, hvs, hfr⟩ := hP.frame 57 rfl
        clear hsl hP hall h14 hvs hS2 HPAR HVR HVN HBX HCX HBE HBN
        subst hfr
        dsimp only
        simp only [List.range, List.range.loop, List.map_cons, List.map_nil, List.any_cons, List.any_nil, Nat.reduceAdd, Nat.reduceBEq, Nat.reduceLT, Option.some_beq_some, Bool.or_false, if_true, if_false, List.getD_cons_zero, List.getD_cons_succ]
        have hx4 := hS2R
        have hbl : Below w4.heap.size w4 (w4.alloc (.cells #[.slice (some ⟨g1, 0, none⟩) k ck] 24)) := (Below.refl _ _).alloc (Nat.le_refl _) _
        have hws : base ≤ w4.heap.size := Nat.le_trans HBW.out hb4.size
        have hpn : (Value.slice A2 (P.length + 1) c2').ownBlock ≠ some g1 := par_ne (by have h := hC4.par; exact h) (by simp) (by
          rcases Nat.eq_zero_or_pos P.length with h0 | h0
          · rw [List.length_eq_zero_iff.1 h0]; simp
          · obtain ⟨y, hy, -⟩ := (HC.out.root.root 0 (by omega)).parent
            rw [List.getD_eq_getElem?_getD, List.getElem?_append_left h0, ← List.getD_eq_getElem?_getD, hy]
            omega) hx4 hm1
        obtain ⟨A6, c6, w6, hr6, hC6, hg6⟩ := (hC4.below hbl).pushRowR (g := g1) (h0 := w4.heap.size) (m := k) (cap := ck) (x := List.replicate k (-1)) (Nat.le_trans hws hbl.size) (Nat.le_trans HBW.out HXS.out.2.1) (hx4.below hbl) (by simp) hm HXS.out.2.2.1 HXS.out.2.2.2 (fun i hi e => by have := HOLD.out i hi; have := HXS.out.2.1; omega) hpn (fun e => by have := HQB.out _ e; have := HXS.out.2.1; omega) (by rw [cell_of_row _ _ _ _ _ _ (heap_alloc_new w4 _)]; rfl) hn
        have hnb : (Value.slice Ar P.length cr).ownBlock ≠ some b := fun e => by
          obtain ⟨-, C, hCC⟩ := owns_block hC4.out b e
          rw [hB4.box] at hCC
          cases hCC
          exact hB4.ty.b rfl
        have hx6 := new23Y (hC4.below hbl).out (Nat.le_trans hws hbl.size) (N := w.heap.size) (Nat.le_trans hb4.size hbl.size) hn (by rw [cell_of_row _ _ _ _ _ _ (heap_alloc_new w4 _)]; rfl) hr6
        have hB6 := (hB4.below hbl).grown hg6 hnb (fun r hr => by
          obtain ⟨-, C, hC'⟩ := owns_block (hC4.below hbl).out r hr
          exact ⟨C, 24, hC', by decide⟩)
        have hlt4 : ∀ k, K k → k < w4.heap.size := fun k hk => Nat.lt_of_lt_of_le (HFR.out.lt k hk) hb4.size
        have hb6 : Keeps base K w w6 := (hb4.trans (Keeps.all hbl hws hlt4)).grown hg6 (Nat.le_trans hws hbl.size) (fun r hr => (owns_block (hC4.below hbl).out r hr).1) (fun k hk => Nat.lt_of_lt_of_le (hlt4 k hk) hbl.size) (fun r hr => HFR.out.r r (by rw [hpl] at hr; exact hr))
        have hB7 := hB6.upd0 (s' := s) (.slice A6 (s.t.length + 1) c6) rfl rfl
        have hC7 := hC6.other hB6.box hB6.ty.a hB6.ty.b 0 (.slice A6 (s.t.length + 1) c6)
        have hb7 := hb6.setCell (p := ⟨b, 0, none⟩) HBB.out HFR.out.box (.slice A6 (s.t.length + 1) c6)
        have hB8 := hB7.upd6 (s' := { s with live := s.live + 1 }) (z := s.live + 1) rfl rfl
        have hC8 := hC7.other hB7.box hB7.ty.a hB7.ty.b 6 (.int .i64 (s.live + 1))
        have hb8 := hb7.setCell (p := ⟨b, 6, none⟩) HBB.out HFR.out.box (.int .i64 (s.live + 1))
        obtain ⟨-, -, d0, -, -, -, -, -⟩ := hB4.cells
        obtain ⟨-, -, e0, -, -, -, -, -⟩ := hB6.cells
        have ef := hB6.frozen 0
        obtain ⟨-, -, -, -, -, -, f4, -⟩ := hB7.cells
        have ff := hB7.frozen 6
        have HR6 := Lib.hid hr6
        have hd := (Below.refl ((w6.setCell ⟨b, 0, none⟩ (.slice A6 (s.t.length + 1) c6)).setCell ⟨b, 6, none⟩ (.int .i64 (s.live + 1))).heap.size ((w6.setCell ⟨b, 0, none⟩ (.slice A6 (s.t.length + 1) c6)).setCell ⟨b, 6, none⟩ (.int .i64 (s.live + 1)))).drew
        have hB9 := hB8.below hd
        have hC9 := hC8.below hd
        have hb9 := hb8.drew
        have HC6 := Lib.hid hB9.cells.2.2.2.2.2.2.2
        have HC5 := Lib.hid hB9.cells.2.2.2.2.2.2.1
        have HF6 := Lib.hid (hB9.frozen 7)
        have hBa := hB9.upd7 (s' := addS k s) (z := max s.most (s.live + 1)) rfl rfl
        have hCa := hC9.other hB9.box hB9.ty.a hB9.ty.b 7 (.int .i64 (max s.most (s.live + 1)))
        have hba := hb9.setCell (p := ⟨b, 7, none⟩) HBB.out HFR.out.box (.int .i64 (max s.most (s.live + 1)))
        have HST : Hid (StG K T wv base b lim (((w6.setCell ⟨b, 0, none⟩ (.slice A6 (s.t.length + 1) c6)).setCell ⟨b, 6, none⟩ (.int .i64 (s.live + 1))).drew.setCell ⟨b, 7, none⟩ (.int .i64 (max s.most (s.live + 1)))) ⟨addS k s, ps⟩) := Lib.hid ⟨_, _, HBB.out, _, _, _, vq, vk, hBa.bx, CoreN.toM (s := addS k s) hCa HRO.out, hBa.ow, ⟨fun k hk => Nat.lt_of_lt_of_le (HFR.out.lt k hk) hba.size, HFR.out.box, fun r hr hk' => by
            rcases hx6 r hr with h | h
            · exact HFR.out.r r (by rw [hpl] at h; exact h) hk'
            · exact absurd (HFR.out.lt r hk') (by omega), fun r hr hk' => by
            rcases hx4b r hr with h | h
            · exact HFR.out.p r h hk'
            · exact absurd (HFR.out.lt r hk') (by have := HWS.out; omega), HFR.out.q, HFR.out.k, fun i hi => by
            by_cases e : i = s.t.length
            · simp only [if_pos e]
              exact fun hk' => absurd (HFR.out.lt _ hk') (by have := HXS.out.2.1; omega)
            · simp only [if_neg e]
              have hi' : i < (addS k s).t.length := hi
              rw [length_add] at hi'
              exact HFR.out.row i (by omega)⟩⟩
        have HBE := Lib.hid hba
        have hp0 : (0 : Int) ≤ (P.length : Int) := Int.natCast_nonneg _
        have hp1 : (P.length : Int) ≤ 1000000 := by omega
        clear hpl hx4 hS2R hB4 hC4 hb4 hbl hws hpn hr6 hC6 hg6 hnb hB6 hb6 hB7 hC7 hb7 hB8 hC8 hb8 hd hB9 hC9 hb9 hBa hCa hba hx6 hx4b hlt4
        go_wp2_with ((with_reducible refine wpList_sel 35 ?_); refine wpList_val rfl (r_app (.tmp 32) (.tmp 34) 23 rfl rfl rfl HR6.out) ?_)
        refine (wpIn_wide (n := 3)).1 ?_
        generalize hw5 : (w6.setCell ⟨b, 0, none⟩ (.slice A6 (s.t.length + 1) c6)).setCell ⟨b, 6, none⟩ (.int .i64 (s.live + 1)) = w5 at *
        refine wpIn_region_all (by kernel_rfl) 13 rfl (fun i => if i < 12 then some (45 + i) else none) (lex_of (by kernel_rfl)) (fun ls W => W = bif ls 12 then w5.drew.setCell ⟨b, 7, none⟩ (.int .i64 (max s.most (s.live + 1))) else w5.drew)
          (fun i v _ => v = ([.pointer (some ⟨b, 0, none⟩), .pointer (some ⟨b, 0, none⟩), .pointer (some ⟨b, 0, none⟩), .pointer (some ⟨b, 7, none⟩), .int .i64 s.most, .pointer (some ⟨b, 0, none⟩), .pointer (some ⟨b, 0, none⟩), .pointer (some ⟨b, 6, none⟩), .int .i64 (s.live + 1), .int .i64 (max s.most (s.live + 1)), .pointer (some ⟨b, 0, none⟩), .pointer (some ⟨b, 7, none⟩), undef] : List Value).getD i undef) (fun _ _ _ => True) (dm_inj (by kernel_rfl)) (fun _ _ _ _ _ _ _ _ _ h => h) (dm_lt (n := 57) (by kernel_rfl)) rfl ?_ ?_
        · intro ls q o a w2 hq ho hS2 hls hcl hP hpre
          have hcases : q = 0 ∨ q = 1 ∨ q = 2 ∨ q = 3 ∨ q = 4 ∨ q = 5 ∨ q = 6 ∨ q = 7 ∨ q = 8 ∨ q = 9 ∨ q = 10 ∨ q = 11 ∨ q = 12 := by
            have : q < 13 := hq
            omega
          rcases hcases with rfl | rfl | rfl | rfl | rfl | rfl | rfl | rfl | rfl | rfl | rfl | rfl | rfl
          · obtain rfl := Option.some.inj ho
            exact wpOpIn_of rfl rfl (wpW_val (r_move (.tmp 0) rfl (hP.out 0 (dm_out (by kernel_rfl)))) ⟨_, rfl, hS2, trivial, (fun h => by simp at h), rfl⟩)
          · obtain rfl := Option.some.inj ho
            exact wpOpIn_of rfl rfl (wpW_val (r_move (.tmp 0) rfl (hP.out 0 (dm_out (by kernel_rfl)))) ⟨_, rfl, hS2, trivial, (fun h => by simp at h), rfl⟩)
          · obtain rfl := Option.some.inj ho
            exact wpOpIn_of rfl rfl (wpW_val (r_nil (.tmp 46) _ rfl (hpre ⟨1, .data⟩ (by simp) rfl).2) ⟨_, rfl, hS2, trivial, (fun h => by simp at h), rfl⟩)
          · obtain rfl := Option.some.inj ho
            exact wpOpIn_of rfl rfl (wpW_val (r_fld (.tmp 47) _ rfl (hpre ⟨2, .data⟩ (by simp) rfl).2 (fld169_7 b _)) ⟨_, rfl, hS2, trivial, (fun h => by simp at h), rfl⟩)
          · obtain rfl := Option.some.inj ho
            have h12 := not_yet hcl 12 rfl ⟨4, .phase⟩ (by simp) rfl hls
            have hW := sel1 hS2 h12
            exact wpOpIn_of rfl rfl (wpW_val (r_load1 3 agg3 (.tmp 48) ⟨b, 7, none⟩ rfl (hpre ⟨3, .data⟩ (by simp) rfl).2 (by rw [hW]; exact HC6.out)) ⟨_, rfl, hS2, trivial, (fun h => by simp at h), rfl⟩)
          · obtain rfl := Option.some.inj ho
            exact wpOpIn_of rfl rfl (wpW_val (r_move (.tmp 0) rfl (hP.out 0 (dm_out (by kernel_rfl)))) ⟨_, rfl, hS2, trivial, (fun h => by simp at h), rfl⟩)
          · obtain rfl := Option.some.inj ho
            exact wpOpIn_of rfl rfl (wpW_val (r_nil (.tmp 50) _ rfl (hpre ⟨5, .data⟩ (by simp) rfl).2) ⟨_, rfl, hS2, trivial, (fun h => by simp at h), rfl⟩)
          · obtain rfl := Option.some.inj ho
            exact wpOpIn_of rfl rfl (wpW_val (r_fld (.tmp 51) _ rfl (hpre ⟨6, .data⟩ (by simp) rfl).2 (fld169_6 b _)) ⟨_, rfl, hS2, trivial, (fun h => by simp at h), rfl⟩)
          · obtain rfl := Option.some.inj ho
            have h12 := not_yet hcl 12 rfl ⟨8, .phase⟩ (by simp) rfl hls
            have hW := sel1 hS2 h12
            exact wpOpIn_of rfl rfl (wpW_val (r_load1 3 agg3 (.tmp 52) ⟨b, 6, none⟩ rfl (hpre ⟨7, .data⟩ (by simp) rfl).2 (by rw [hW]; exact HC5.out)) ⟨_, rfl, hS2, trivial, (fun h => by simp at h), rfl⟩)
          · obtain rfl := Option.some.inj ho
            exact wpOpIn_of rfl rfl (wpW_val (r_max2 (.tmp 49) (.tmp 53) s.most (s.live + 1) _ rfl (hpre ⟨4, .data⟩ (by simp) rfl).2 (hpre ⟨8, .data⟩ (by simp) rfl).2 rfl) ⟨_, rfl, hS2, trivial, (fun h => by simp at h), rfl⟩)
          · obtain rfl := Option.some.inj ho
            exact wpOpIn_of rfl rfl (wpW_val (r_nil (.tmp 45) _ rfl (hpre ⟨0, .data⟩ (by simp) rfl).2) ⟨_, rfl, hS2, trivial, (fun h => by simp at h), rfl⟩)
          · obtain rfl := Option.some.inj ho
            exact wpOpIn_of rfl rfl (wpW_val (r_fld (.tmp 55) _ rfl (hpre ⟨10, .data⟩ (by simp) rfl).2 (fld169_7 b _)) ⟨_, rfl, hS2, trivial, (fun h => by simp at h), rfl⟩)
          · obtain rfl := Option.some.inj ho
            have hW := sel1 hS2 hls
            subst hW
            exact wpOpIn_of rfl rfl (wpW_skip (r_store1 3 (.tmp 56) (.tmp 54) ⟨b, 7, none⟩ _ _ rfl (hpre ⟨11, .data⟩ (by simp) rfl).2 (hpre ⟨9, .data⟩ (by simp) rfl).2 rfl HC6.out HF6.out (st3 _ _ _ HC6.out HF6.out)) ⟨undef, rfl, rfl, trivial, fun _ => rfl, rfl⟩)
        · intro ls a w6 hall hS2 hP hsl
          have h12 : ls 12 = true := hall 12 (by decide)
          rw [h12] at hS2
          obtain ⟨vs3, hvs, hfr⟩ := hP.frame 57 rfl
          clear hsl hP hall h12 hvs HC6 HC5 HF6 hw5
          subst hfr
          change w6 = w5.drew.setCell ⟨b, 7, none⟩ (.int .i64 (max s.most (s.live + 1))) at hS2
          rw [← hS2] at HST HBE
          clear hS2
          dsimp only
          simp only [List.range, List.range.loop, List.map_cons, List.map_nil, List.any_cons, List.any_nil, Nat.reduceAdd, Nat.reduceBEq, Nat.reduceLT, Option.some_beq_some, Bool.or_false, if_true, if_false, List.getD_cons_zero, List.getD_cons_succ]
          try go_wp2_with fail
          go_end0
          exact ⟨rfl, HST.out, HBE.out⟩
end Go.Proofs
namespace Go.Proofs
open Go.RowKit Go.Shelf Go.Proofs.Ct Go.Maps
theorem StGB.top {K : Nat → Prop} {T : TypeId} {wv : Value} {bl cs : Nat → Nat} {base b lim : Nat} {w : World} {f : FS} (hS : StGB K T wv bl cs base b lim w f) : ∃ A c, w.cell? ⟨b, 0, none⟩ = some (.slice A f.s.t.length c) ∧ w.cell? ⟨b, 5, none⟩ = some (.int .i64 (lim : Int)) := by
  obtain ⟨-, P, vr, vp, vq, vk, hB, hC, -⟩ := hS
  obtain ⟨A, c, rfl⟩ := owns_form hC.out
  exact ⟨A, c, hB.cells.2.2.1, hB.cells.2.1⟩
theorem StG.below {K : Nat → Prop} {T : TypeId} {wv : Value} {base b lim : Nat} {w w' : World} {f : FS} (hS : StG K T wv base b lim w f) (h : Below w.heap.size w w') : StG K T wv base b lim w' f := let ⟨bl, cs, h1⟩ := hS; ⟨bl, cs, h1.below h⟩
set_option maxRecDepth 100000 in
set_option maxHeartbeats 1000000 in
theorem define154_full (K : Nat → Prop) (T : TypeId) (wv : Value) (bl cs : Nat → Nat) (base b lim r c : Nat) (w : World) (f : FS) (hS : StGB K T wv bl cs base b lim w f) (hn : f.s.t.length ≤ 1000000) (hl : lim ≤ f.s.t.length) :
    Calls Try.prog 154 #[.pointer (some ⟨b, 0, none⟩), .int .i64 (r : Int), .int .i64 (c : Int)] w fun e w' => e = .returned (.bool false) ∧ ∃ q, w' = w.drewN q := by
  obtain ⟨A, cr, c0, c5⟩ := hS.top
  have hn0 : (lim : Int) ≤ (f.s.t.length : Int) := by omega
  have hn1 : (f.s.t.length : Int) ≤ 1000000 := by omega
  clear hS
  go_enter Try.func154, Try.ntmps154
  go_wp2_with fail
  go_quiet (fail)
  go_wp2_with fail
  go_ret
  exact ⟨rfl, _, rfl⟩
set_option maxRecDepth 100000 in
set_option maxHeartbeats 2000000 in
theorem define154_any (K : Nat → Prop) (T : TypeId) (wv : Value) (bl cs : Nat → Nat) (g m base b lim r c : Nat) (hm : m = 2 * g) (hg1 : 1 ≤ g) (hg : g ≤ 16) (w : World) (f : FS) (hT : TyF T) (hR : Ct.Rest g f.s) (hS : StGB K T wv bl cs base b lim w f) (hbw : base ≤ w.heap.size) (hn : f.s.t.length + 1 ≤ 1000000) (hr : r < f.s.t.length) (hc : c < m) (hlt : f.s.t.length < lim) (hl : lim ≤ 1000000) (hk : f.k.length ≤ 1000000000000) :
    Calls Try.prog 154 #[.pointer (some ⟨b, 0, none⟩), .int .i64 (r : Int), .int .i64 (c : Int)] w fun e w' => e = .returned (.bool true) ∧ StG K T wv base b lim w' (defF m f r c) ∧ Keeps base K w w' := by
  have hlv : -1000000 ≤ f.s.live ∧ f.s.live ≤ 1000000 := by
    have h1 := hR.lv
    have h2 := dc_le f.s
    omega
  obtain ⟨A, cr, c0, c5⟩ := hS.top
  have HBW := Lib.hid hbw
  have hgr : ∀ W, Below w.heap.size w W → ∃ gr cr, W.cell? ⟨b, 0, none⟩ = some (.slice (some ⟨gr, 0, none⟩) f.s.t.length cr) ∧ W.cell? ⟨gr, r, none⟩ = some (.slice (some ⟨bl r, 0, none⟩) m (cs r)) := fun W h => by
    obtain ⟨gr, cr, r1, r2, -⟩ := (hS.below h).at_ hR.inv (r := r) (c := 0) hr (by omega)
    rw [← hm] at r2
    exact ⟨gr, cr, r1, r2⟩
  obtain ⟨gr, cr', r1, r2⟩ := hgr w (Below.refl _ _)
  rw [c0] at r1
  cases r1
  have HA : Hid (∀ W, Below w.heap.size w W → Calls Try.prog 150 #[.pointer (some ⟨b, 0, none⟩), .int .i64 (m : Int)] W fun e w' => e = .returned (.tuple #[]) ∧ StG K T wv base b lim w' ⟨addS m f.s, f.k⟩ ∧ Keeps base K W w') := Lib.hid fun W h =>
    add150_any K T wv bl cs g m base b lim (by omega) (by omega) W f hT hR.inv (hS.below h) (Nat.le_trans hbw h.size) (by omega) hlv.1 hlv.2
  have hI : Inv g (addS m f.s) := by rw [hm]; exact hR.add.inv
  have hlen : (addS m f.s).t.length = f.s.t.length + 1 := length_add m
  have HJ : Hid (∀ W, StG K T wv base b lim W ⟨addS m f.s, f.k⟩ → base ≤ W.heap.size → Calls Try.prog 200 #[.pointer (some ⟨b, 0, none⟩), .int .i64 (r : Int), .int .i64 (c : Int), .int .i64 (f.s.t.length : Int)] W fun e w' => e = .returned (.tuple #[]) ∧ StG K T wv base b lim w' (defF m f r c) ∧ Keeps base K W w') := Lib.hid fun W h hw => by
    obtain ⟨bl', cs', h'⟩ := h
    have hc' : c < 2 * g := by omega
    exact (set200_any K T wv bl' cs' g base b lim r c f.s.t.length W ⟨addS m f.s, f.k⟩ hT hI hg h' hw (by simp only; omega) (by simp only; omega) hc' (by simp only; omega) hk).mono fun e w' ⟨h1, h2, h3⟩ => ⟨h1, ⟨bl', cs', h2⟩, h3⟩
  have HTOP : Hid (∀ W, StG K T wv base b lim W ⟨addS m f.s, f.k⟩ → ∃ A c, W.cell? ⟨b, 0, none⟩ = some (.slice A (f.s.t.length + 1) c)) := Lib.hid fun W h => by
    obtain ⟨bl', cs', h'⟩ := h
    obtain ⟨A, c, h1, -⟩ := h'.top
    rw [hlen] at h1
    exact ⟨A, c, h1⟩
  have hn0 : (f.s.t.length : Int) < (lim : Int) := by omega
  have hl0 : (lim : Int) ≤ 1000000 := by omega
  have hr0 : (0 : Int) ≤ (r : Int) := Int.natCast_nonneg _
  have hr1 : (r : Int) < (f.s.t.length : Int) := by omega
  have hm0 : (m : Int) ≤ 32 := by omega
  have HKW : Hid (∀ q, Below w.heap.size w (w.drewN q) ∧ Keeps base K w (w.drewN q)) := Lib.hid fun q => ⟨below_drewN (Below.refl _ _) q, Keeps.all (below_drewN (Below.refl _ _) q) hbw hS.lt⟩
  clear hS hR hbw hI hlen hgr hm
  generalize addS m f.s = sa at *
  generalize defF m f r c = fd at *
  generalize bl r = br at *
  generalize cs r = kr at *
  generalize f.s.t.length = n at *
  go_enter Try.func154, Try.ntmps154
  go_wp2_with fail
  go_quiet (fail)
  go_wp2_with (first
    | (go_at_call 150; (with_reducible refine (HA.out _ (HKW.out nq).1).mono ?_); rintro E w1 ⟨rfl, hs1, hb1⟩
       have HS1 := Lib.hid hs1
       have HB1 := Lib.hid ((HKW.out nq).2.trans hb1)
       obtain ⟨A1, c1, d1⟩ := HTOP.out _ hs1
       clear hs1 hb1)
    | (go_at_call 200; (with_reducible refine (HJ.out _ HS1.out (Nat.le_trans HBW.out HB1.out.size)).mono ?_); rintro E w2 ⟨rfl, hs2, hb2⟩
       have HS2 := Lib.hid hs2
       have HB2 := Lib.hid (HB1.out.trans hb2)
       clear hs2 hb2))
  go_ret
  exact ⟨rfl, HS2.out, HB2.out⟩
end Go.Proofs
